/- Texts that lead to the law, part 8. -/
import Derived.Test.YtkccfpgnifdgjaaZG
import Derived.KernelRfl

/- The value logic, part V2: rows of rows, maps; every operation but calls. -/
namespace Go.Fw
open Go

section
variable {C : Ctx} {P : Program} {env env' : Env} {st st' : St} {x : LV} {K' : LV → Env → St → Prop}

noncomputable def litGE (C : Ctx) (env : Env) (st : St) (s t len : Nat) (parts : List (Nat × Operand)) : Ev :=
  match C.ty t with
  | some ⟨.slice e, _, _, _⟩ => match C.ty e with
    | some ⟨.slice e2, tsz, _, _⟩ => match C.ty e2 with
      | some te2 => match parts with
        | [p] => okIf (Nat.beq p.1 0 && (Nat.beq len 1 && (Nat.beq tsz 1 && freshB env st.cur s))) (match opdR env p.2 with
            | .t (.sl nl _ _) => okIf nl (some (.osl (.cur s) 1 0 1, env, { st with cur := (s, .grid e e2 te2.size [.nil]) :: st.cur }))
            | .osl k szr off n => match k, off with
              | .cur s2, 0 => match lookR st.cur s2 with
                | some (.row e3 szq es) => okIf (Nat.beq szr te2.size && (!Nat.beq s2 s && (Nat.beq e3 e2 && (Nat.beq szq te2.size && (noMit (.sub (.cur s) 0) st.cur && Nat.beq n es.length)))))
                    (some (.osl (.cur s) 1 0 1, moveE (.cur s2) (.sub (.cur s) 0) env,
                      { st with cur := setCur (absorbC s s2 0 ((s, .grid e e2 te2.size [.out]) :: st.cur)) s (.grid e e2 te2.size [.row es]) }))
                | _ => none
              | _, _ => none
            | _ => none)
        | _ => none
      | none => none
    | _ => none
  | _ => none
theorem litGE_ok {s t len : Nat} {parts : List (Nat × Operand)} (h : litGE C env st s t len parts = some (x, env', st')) (hK : K' x env' st') : litGW C env st s t len parts K' := by
  unfold litGE at h; simp only [lookR_eq, opdR_eq] at h; unfold litGW
  split at h
  rotate_left
  · cases h
  rename_i e _ _ _ ht
  split at h
  rotate_left
  · cases h
  rename_i e2 tsz _ _ hte
  split at h
  rotate_left
  · cases h
  rename_i te2 hte2
  simp only [ht, hte, hte2]
  split at h
  rotate_left
  · cases h
  rename_i p
  obtain ⟨j, o⟩ := p
  obtain ⟨hf, h⟩ := okIf_some h
  simp only [Bool.and_eq_true] at hf
  obtain ⟨f1, f2, f3, f4⟩ := hf
  have f1 := Nat.eq_of_beq_eq_true f1
  subst f1
  simp only [f2, f3, f4]
  split at h
  · rename_i nl _ _ ho
    obtain ⟨hn, h⟩ := okIf_some h
    subst hn
    cases h
    simp only [ho]; exact hK
  · rename_i k szr off n ho
    split at h
    · rename_i s2
      split at h
      · rename_i e3 szq es hl
        obtain ⟨hf, h⟩ := okIf_some h
        simp only [Bool.and_eq_true, Bool.not_eq_true'] at hf
        obtain ⟨g1, g2, g3, g4, g5, g6⟩ := hf
        cases h
        simp only [ho, hl, g1, g2, g3, g4, g5]
        exact ⟨Nat.eq_of_beq_eq_true g6, hK⟩
      · cases h
    · cases h
  · cases h

noncomputable def appGE (C : Ctx) (env : Env) (st : St) (s t : Nat) (x y : LV) : Ev :=
  match C.ty t with
  | some ⟨.slice e, _, _, _⟩ => match C.ty e with
    | some te => match y with
      | .osl (.cur h) 1 0 1 => match lookR st.cur h with
        | some (.grid (.sl eo) e2 sz [r]) => okIf (Nat.beq te.size 1 && (Nat.beq eo e && (freshB env st.cur (s + 1) && !Nat.beq (s + 1) h))) (match x with
            | .osl (.cur g) 1 0 len => match lookR st.cur g with
              | some (.grid (.sl eo') e2' sz' rs) => okIf (!Nat.beq h g && (!Nat.beq (s + 1) g && (Nat.beq eo' e && (Nat.beq e2' e2 && (Nat.beq sz' sz && (Nat.beq len rs.length && (Nat.ble ((rs.length + 1) * te.bytes) 140737488355328 && Nat.ble (rs.length + 1) 140737488355328))))))) (match r with
                  | .nil => some (.osl (.cur g) 1 0 (rs.length + 1), purgeE (.cur g) env, { st with cur := setCur (purgeC (.cur g) st.cur) g (.grid e e2 sz (rs ++ [.nil])) })
                  | .row es => okIf (noMit (.sub (.cur g) rs.length) (setCur (purgeC (.cur g) ((s + 1, .row e2 sz es) :: setCur (purgeC (.sub (.cur h) 0) st.cur) h (.grid e e2 sz [.out]))) g (.grid e e2 sz (rs ++ [.out]))))
                    (some (.osl (.cur g) 1 0 (rs.length + 1), moveE (.cur (s + 1)) (.sub (.cur g) rs.length) (purgeE (.cur g) (moveE (.sub (.cur h) 0) (.cur (s + 1)) env)),
                      { st with cur := setCur (absorbC g (s + 1) rs.length (setCur (purgeC (.cur g) ((s + 1, .row e2 sz es) :: setCur (purgeC (.sub (.cur h) 0) st.cur) h (.grid e e2 sz [.out]))) g (.grid e e2 sz (rs ++ [.out])))) g (.grid e e2 sz (rs ++ [.row es])) }))
                  | .out => none)
              | _ => none
            | .t (.sl true _ _) => okIf (freshB env st.cur s && (!Nat.beq s h && Nat.ble te.bytes 140737488355328)) (match r with
                | .nil => some (.osl (.cur s) 1 0 1, env, { st with cur := (s, .grid e e2 sz [.nil]) :: st.cur })
                | .row es => okIf (noMit (.sub (.cur s) 0) (setCur (purgeC (.sub (.cur h) 0) st.cur) h (.grid e e2 sz [.out])) && freshB (moveE (.sub (.cur h) 0) (.cur (s + 1)) env) ((s + 1, .row e2 sz es) :: setCur (purgeC (.sub (.cur h) 0) st.cur) h (.grid e e2 sz [.out])) s)
                    (some (.osl (.cur s) 1 0 1, moveE (.cur (s + 1)) (.sub (.cur s) 0) (moveE (.sub (.cur h) 0) (.cur (s + 1)) env),
                      { st with cur := setCur (absorbC s (s + 1) 0 ((s, .grid e e2 sz [.out]) :: (s + 1, .row e2 sz es) :: setCur (purgeC (.sub (.cur h) 0) st.cur) h (.grid e e2 sz [.out]))) s (.grid e e2 sz [.row es]) }))
                | .out => none)
            | _ => none)
        | _ => none
      | _ => none
    | none => none
  | _ => none
theorem appGE_ok {s t : Nat} {y z : LV} (h : appGE C env st s t y z = some (x, env', st')) (hK : K' x env' st') : appGW C env st s t y z K' := by
  unfold appGE at h; simp only [lookR_eq] at h; unfold appGW
  split at h
  rotate_left
  · cases h
  rename_i e _ _ _ ht
  split at h
  rotate_left
  · cases h
  rename_i te hte
  simp only [ht, hte]
  split at h
  rotate_left
  · cases h
  rename_i hh
  split at h
  rotate_left
  · cases h
  rename_i eo e2 sz r hl
  obtain ⟨hf, h⟩ := okIf_some h
  simp only [Bool.and_eq_true, Bool.not_eq_true'] at hf
  obtain ⟨f1, f2, f3, f4⟩ := hf
  simp only [hl, f1, f2, f3, f4]
  split at h
  · rename_i g len
    split at h
    rotate_left
    · cases h
    rename_i eo' e2' sz' rs hlg
    obtain ⟨hf, h⟩ := okIf_some h
    simp only [Bool.and_eq_true, Bool.not_eq_true'] at hf
    obtain ⟨g1, g2, g3, g4, g5, g6, g7, g8⟩ := hf
    simp only [hlg, g1, g2, g3, g4, g5]
    refine ⟨Nat.eq_of_beq_eq_true g6, Nat.le_of_ble_eq_true g7, Nat.le_of_ble_eq_true g8, ?_⟩
    split at h
    · cases h; exact hK
    · obtain ⟨hf, h⟩ := okIf_some h
      cases h
      simp only [hf]; exact hK
    · cases h
  · obtain ⟨hf, h⟩ := okIf_some h
    simp only [Bool.and_eq_true, Bool.not_eq_true'] at hf
    obtain ⟨g1, g2, g3⟩ := hf
    simp only [g1, g2]
    refine ⟨Nat.le_of_ble_eq_true g3, ?_⟩
    split at h
    · cases h; exact hK
    · obtain ⟨hf, h⟩ := okIf_some h
      simp only [Bool.and_eq_true] at hf
      cases h
      simp only [hf.1, hf.2]; exact hK
    · cases h
  · cases h

/-! ### Maps -/
def mapMakeE (C : Ctx) (env : Env) (st : St) (s t : Nat) : Ev :=
  match C.ty t with
  | some ⟨.map kt _, _, _, _⟩ => match C.ty kt with
    | some tk => okIf (freshB env st.cur s) (some (.mpr (.cur s), env, { st with cur := (s, .mp tk.d []) :: st.cur }))
    | none => none
  | _ => none
theorem mapMakeE_ok {s t : Nat} (h : mapMakeE C env st s t = some (x, env', st')) (hK : K' x env' st') : mapMakeW C env st s t K' := by
  unfold mapMakeE at h; unfold mapMakeW
  split at h
  · rename_i kt _ _ _ _ ht
    split at h
    · rename_i tk htk
      obtain ⟨hf, h⟩ := okIf_some h
      cases h
      simp only [ht, htk, hf]; exact hK
    · cases h
  · cases h
noncomputable def mapSetE (C : Ctx) (env : Env) (st : St) (t : Nat) (m k x : LV) : Option (Env × St) :=
  match C.ty t with
  | some ⟨.map kt _, _, _, _⟩ => match C.ty kt, m, k, x with
    | some tk, .mpr (.cur s), .t (.v kv), .t y => match lookR st.cur s with
      | some (.mp kd l) => okIf (decide (kd = tk.d) && (keyOK kd kv && noMit (.cur s) st.cur)) (some (env, { st with cur := setCur st.cur s (.mp kd (updKV kv y l)) }))
      | _ => none
    | _, _, _, _ => none
  | _ => none
theorem mapSetE_ok {t : Nat} {m k y : LV} {KS : Env → St → Prop} (h : mapSetE C env st t m k y = some (env', st')) (hK : KS env' st') : mapSetW C env st t m k y KS := by
  unfold mapSetE at h; simp only [lookR_eq] at h; unfold mapSetW
  split at h
  rotate_left
  · cases h
  rename_i ht
  split at h
  rotate_left
  · cases h
  rename_i tk s kv y htk
  split at h
  rotate_left
  · cases h
  rename_i kd l hl
  obtain ⟨hf, h⟩ := okIf_some h
  simp only [Bool.and_eq_true] at hf
  cases h
  simp only [ht, htk, hl, hf.1, hf.2.1, hf.2.2]; exact hK
def mapMakeGE (C : Ctx) (env : Env) (st : St) (s t : Nat) : Ev :=
  match C.ty t with
  | some ⟨.map kt et, _, _, _⟩ => match C.ty kt, C.ty et with
    | some tk, some ⟨.slice e, _, _, _⟩ => match C.ty e with
      | some te => okIf (freshB env st.cur s) (some (.mpr (.cur s), env, { st with cur := (s, .grid (.mp tk.d []) e te.size []) :: st.cur }))
      | none => none
    | _, _ => none
  | _ => none
theorem mapMakeGE_ok {s t : Nat} (h : mapMakeGE C env st s t = some (x, env', st')) (hK : K' x env' st') : mapMakeGW C env st s t K' := by
  unfold mapMakeGE at h; unfold mapMakeGW
  split at h
  · rename_i ht
    split at h
    · rename_i htk hte
      split at h
      · rename_i te hte2
        obtain ⟨hf, h⟩ := okIf_some h
        cases h
        simp only [ht, htk, hte, hte2, hf]; exact hK
      · cases h
    · cases h
  · cases h
def mapMakeXE (C : Ctx) (env : Env) (st : St) (s t : Nat) : Ev := match look C.grd t with
  | none => mapMakeE C env st s t
  | some _ => mapMakeGE C env st s t
theorem mapMakeXE_ok {s t : Nat} (h : mapMakeXE C env st s t = some (x, env', st')) (hK : K' x env' st') : mapMakeXW C env st s t K' := by
  unfold mapMakeXE at h; unfold mapMakeXW
  split at h
  · rename_i hg; simp only [hg]; exact mapMakeE_ok h hK
  · rename_i hg; simp only [hg]; exact mapMakeGE_ok h hK
/-- The slots that may name rows of the same row of rows and do not name this one. -/
noncomputable def keepsE (k : K) (env : Env) : Env → List Nat
  | [] => []
  | (n, x) :: r => match x.mayH k with
    | true => match lookR env n with
      | some y => match y.has k with
        | true => keepsE k env r
        | false => n :: keepsE k env r
      | none => keepsE k env r
    | false => keepsE k env r
theorem keepsE_ok {k : K} {env : Env} : ∀ {r : Env}, ∀ n ∈ keepsE k env r, ∀ x, look env n = some x → x.has k = false
  | [], n, hn, _, _ => by cases hn
  | (m, y) :: r, n, hn, x, hx => by
    unfold keepsE at hn
    split at hn
    · split at hn
      · rename_i z hz
        split at hn
        · exact keepsE_ok n hn x hx
        · rename_i hh
          rcases List.mem_cons.1 hn with rfl | hn
          · rw [lookR_eq, hx] at hz; cases hz; exact hh
          · exact keepsE_ok n hn x hx
      · exact keepsE_ok n hn x hx
    · exact keepsE_ok n hn x hx
noncomputable def absE (C : Ctx) (env : Env) (s s2 i : Nat) : Env := match C.exa with
  | false => purgeE (.sub (.cur s) i) (purgeE (.cur s2) env)
  | true => purgeK (.sub (.cur s) i) (keepsE (.sub (.cur s) i) env env) (purgeE (.cur s2) env)
theorem absE_ok {C : Ctx} {env : Env} {s s2 i : Nat} {F : Env → Prop} (h : F (absE C env s s2 i)) : absW C env s s2 i F := by
  unfold absE at h; unfold absW
  split
  · rename_i he; rw [he] at h; exact h
  · rename_i he; rw [he] at h; exact ⟨_, keepsE_ok, h⟩
noncomputable def mapSetGE (C : Ctx) (env : Env) (st : St) (t : Nat) (m k x : LV) : Option (Env × St) :=
  match C.ty t with
  | some ⟨.map kt _, _, _, _⟩ => match C.ty kt, m, k with
    | some tk, .mpr (.cur s), .t (.v kv) => match lookR st.cur s with
      | some (.grid (.mp kd ks) e sz rs) => okIf (decide (kd = tk.d) && (keyOK kd kv && noMitU s st.cur)) (match x with
        | .t (.sl nl _ _) => okIf nl (match findK kv ks with
          | none => some (env, { st with cur := setCur st.cur s (.grid (.mp kd (ks ++ [kv])) e sz (rs ++ [.nil])) })
          | some i => some (env, { st with cur := setCur st.cur s (.grid (.mp kd ks) e sz (rs.set i .nil)) }))
        | .osl k2 szr off len => match k2, off with
          | .cur s2, 0 => match lookR st.cur s2 with
            | some (.row e2 szq es) => okIf (Nat.beq szr sz && (!Nat.beq s2 s && (Nat.beq e2 e && (Nat.beq szq sz && Nat.beq len es.length)))) (match findK kv ks with
              | none => some (absE C env s s2 rs.length, { st with cur := setCur (absorbC s s2 rs.length st.cur) s (.grid (.mp kd (ks ++ [kv])) e sz (rs ++ [.row es])) })
              | some i => some (absE C env s s2 i, { st with cur := setCur (absorbC s s2 i st.cur) s (.grid (.mp kd ks) e sz (rs.set i (.row es))) }))
            | _ => none
          | _, _ => none
        | _ => none)
      | _ => none
    | _, _, _ => none
  | _ => none
theorem mapSetGE_ok {t : Nat} {m k y : LV} {KS : Env → St → Prop} (h : mapSetGE C env st t m k y = some (env', st')) (hK : KS env' st') : mapSetGW C env st t m k y KS := by
  unfold mapSetGE at h; simp only [lookR_eq] at h; unfold mapSetGW
  split at h
  rotate_left
  · cases h
  rename_i ht
  split at h
  rotate_left
  · cases h
  rename_i tk s kv htk
  split at h
  rotate_left
  · cases h
  rename_i kd ks e sz rs hl
  obtain ⟨hf, h⟩ := okIf_some h
  simp only [Bool.and_eq_true] at hf
  simp only [ht, htk, hl, hf.1, hf.2.1, hf.2.2]
  split at h
  · obtain ⟨hn, h⟩ := okIf_some h
    subst hn
    simp only
    obtain ⟨o, hk⟩ : ∃ o, findK kv ks = o := ⟨_, rfl⟩
    rw [hk] at h
    cases o with
    | none => cases h; exact ⟨fun _ => hK, fun i hi => by rw [hk] at hi; cases hi⟩
    | some i => cases h; exact ⟨fun hi => (by rw [hk] at hi; cases hi), fun j hj => by rw [hk] at hj; cases hj; exact hK⟩
  · rename_i k2 szr off len
    split at h
    · rename_i s2
      split at h
      · rename_i e2 szq es hl2
        obtain ⟨hn, h⟩ := okIf_some h
        simp only [Bool.and_eq_true, Bool.not_eq_true'] at hn
        obtain ⟨n1, n2, n3, n4, n5⟩ := hn
        simp only [hl2, n1, n2, n3, n4]
        refine ⟨Nat.eq_of_beq_eq_true n5, ?_⟩
        obtain ⟨o, hk⟩ : ∃ o, findK kv ks = o := ⟨_, rfl⟩
        rw [hk] at h
        cases o with
        | none => cases h; exact ⟨fun _ => absE_ok hK, fun i hi => by rw [hk] at hi; cases hi⟩
        | some i => cases h; exact ⟨fun hi => (by rw [hk] at hi; cases hi), fun j hj => by rw [hk] at hj; cases hj; exact absE_ok hK⟩
      · cases h
    · cases h
  · cases h
noncomputable def mapSetXE (C : Ctx) (env : Env) (st : St) (t : Nat) (m k x : LV) : Option (Env × St) := match gridMp st m with
  | false => mapSetE C env st t m k x
  | true => mapSetGE C env st t m k x
theorem mapSetXE_ok {t : Nat} {m k y : LV} {KS : Env → St → Prop} (h : mapSetXE C env st t m k y = some (env', st')) (hK : KS env' st') : mapSetXW C env st t m k y KS := by
  unfold mapSetXE at h; unfold mapSetXW
  split at h
  · rename_i hg; simp only [hg]; exact mapSetE_ok h hK
  · rename_i hg; simp only [hg]; exact mapSetGE_ok h hK
noncomputable def rangeE (C : Ctx) (env : Env) (st : St) (s t : Nat) (x : LV) : Ev :=
  match C.ty t with
  | some ⟨.map _ _, _, _, _⟩ => match x with
    | .mpr (.cur m) => match lookR st.cur m with
      | some (.mp _ kv) => okIf (!Nat.beq m s && freshB (purgeE (.cur m) env) (delCur m st.cur) s) (some (.ptr (.cur s) 0, purgeE (.cur m) env, { st with cur := (s, .mit (.cur m) ((.slice none 0 0, .v (.bool false)) :: kv)) :: delCur m st.cur }))
      | _ => none
    | _ => none
  | _ => none
theorem rangeE_ok {s t : Nat} {y : LV} (h : rangeE C env st s t y = some (x, env', st')) (hK : K' x env' st') : rangeW C env st s t y K' := by
  unfold rangeE at h; simp only [lookR_eq] at h; unfold rangeW
  split at h
  rotate_left
  · cases h
  rename_i ht
  split at h
  rotate_left
  · cases h
  split at h
  rotate_left
  · cases h
  rename_i hl
  obtain ⟨hf, h⟩ := okIf_some h
  simp only [Bool.and_eq_true, Bool.not_eq_true'] at hf
  cases h
  simp only [ht, hl, hf.1, hf.2]; exact hK
/-- Only where at most one entry is left: there is one way. -/
noncomputable def nextE (st : St) (x : LV) : Option (LV × St) :=
  match x with
  | .ptr (.cur s) 0 => match lookR st.cur s with
    | some (.mit m (_ :: rest)) => match rest with
      | [] => some (.tup [.t (.v (.bool false))], st)
      | [p] => some (.tup [.t (.v (.bool true)), .t (.v p.1), .t p.2], { st with cur := setCur st.cur s (.mit m [p]) })
      | _ => none
    | _ => none
  | _ => none
theorem nextE_ok {y : LV} {KS : LV → St → Prop} (h : nextE st y = some (x, st')) (hK : KS x st') : nextW st y KS := by
  unfold nextE at h; simp only [lookR_eq] at h; unfold nextW
  split at h
  rotate_left
  · cases h
  split at h
  rotate_left
  · cases h
  rename_i m c rest hl
  simp only [hl]
  split at h
  · cases h
    exact And.intro (fun _ => hK) fun i p hp => by simp at hp
  · cases h
    refine And.intro (fun h => by simp at h) fun i p hp => ?_
    cases i with
    | zero => simp at hp; subst hp; exact hK
    | succ i => simp at hp
  · cases h
noncomputable def entryE (st : St) (x : LV) : Option LV :=
  match x with
  | .ptr (.cur s) 0 => match lookR st.cur s with
    | some (.mit _ (c :: _)) => okIf (keyB c.1) (some (.tup [.t (.v c.1), .t c.2]))
    | _ => none
  | _ => none
theorem entryE_ok {y : LV} {KS : LV → Prop} (h : entryE st y = some x) (hK : KS x) : entryW st y KS := by
  unfold entryE at h; simp only [lookR_eq] at h; unfold entryW
  split at h
  rotate_left
  · cases h
  split at h
  rotate_left
  · cases h
  rename_i hl
  obtain ⟨hf, h⟩ := okIf_some h
  cases h
  simp only [hl, hf]; exact hK

/-- Pure operations: what 'pev' tells, with nothing left to be shown. -/
def PevOK (P : Program) (o : Oper) (env : Env) (st : St) (x : LV) : Prop := ∀ (E : Ent) (N : Nat) (β : K → Nat) (RO : Nat → Prop) (a : Act) (w : World) (Q : Act → World → Prop), SR E N β RO env st a w →
  (∀ v, VL β RO w x v → Q (a.put o.dst v) w) → o.wp P a w Q fun _ _ _ => False
theorem pevOK (hC : C.OK P) {o : Oper} (h : pev C env st o.op = some x) : PevOK P o env st x := by
  intro E N β RO a w Q hs hQ
  obtain ⟨v, h1, h2⟩ := pev_sound hC hs h
  unfold Oper.wp
  rw [h1]
  exact hQ v h2

/-! ### Pure operations, so that they run fast -/
def kidx : IntKind → Nat
  | .i8 => 0 | .i16 => 1 | .i32 => 2 | .i64 => 3 | .u8 => 4 | .u16 => 5 | .u32 => 6 | .u64 => 7
def kEq (k k' : IntKind) : Bool := Nat.beq (kidx k) (kidx k')
theorem kEq_eq {k k' : IntKind} (h : kEq k k' = true) : k = k' := by cases k <;> cases k' <;> first | rfl | cases h
def leI : Int → Int → Bool
  | .ofNat m, .ofNat n => Nat.ble m n
  | .negSucc m, .negSucc n => Nat.ble n m
  | .negSucc _, .ofNat _ => true
  | .ofNat _, .negSucc _ => false
def eqI : Int → Int → Bool
  | .ofNat m, .ofNat n => Nat.beq m n
  | .negSucc m, .negSucc n => Nat.beq m n
  | _, _ => false
theorem leI_eq (a b : Int) : leI a b = decide (a ≤ b) := by
  cases a <;> cases b <;> simp only [leI]
  · rename_i m n
    rw [Bool.eq_iff_iff, Nat.ble_eq, decide_eq_true_eq]
    exact Int.ofNat_le.symm
  · rename_i m n
    symm; rw [decide_eq_false_iff_not]
    intro h; have : (0 : Int) ≤ Int.negSucc n := Int.le_trans (Int.natCast_nonneg m) h
    exact absurd this (by simp [Int.negSucc_not_nonneg])
  · rename_i m n
    symm; rw [decide_eq_true_eq]
    exact Int.le_trans (Int.le_of_lt (Int.negSucc_lt_zero m)) (Int.natCast_nonneg n)
  · rename_i m n
    rw [Bool.eq_iff_iff, Nat.ble_eq, decide_eq_true_eq]
    simp only [Int.negSucc_eq]
    omega
theorem eqI_eq (a b : Int) : eqI a b = (a == b) := by
  rw [Bool.eq_iff_iff, beq_iff_eq]
  cases a <;> cases b <;> simp only [eqI, Nat.beq_eq, Int.ofNat.injEq, Int.negSucc.injEq, reduceCtorEq, Bool.false_eq_true]
def fitE (k : IntKind) (n : Int) : Option LV := okIf (leI (lo k) n && leI n (hi k)) (some (.t (.v (.int k n))))
theorem fitE_ok {wr : Bool} {k : IntKind} {n : Int} {y : LV} (h : fitE k n = some y) : ∃ r, inRw wr k n = some r ∧ y = .t (.v r) := by
  obtain ⟨hf, h⟩ := okIf_some h
  simp only [leI_eq, Bool.and_eq_true, decide_eq_true_eq] at hf
  cases h
  cases wr with
  | true => exact ⟨_, rfl, by rw [wrap_in hf.1 hf.2]⟩
  | false => exact ⟨_, if_pos hf, rfl⟩
def fastB (op : BinOp) (x y : LV) : Option LV := match x, y with
  | .t (.v (.int k a)), .t (.v (.int k' b)) => okIf (kEq k k') (match op with
    | .add => fitE k (a + b)
    | .sub => fitE k (a - b)
    | .eql => some (.t (.v (.bool (eqI a b))))
    | .neq => some (.t (.v (.bool (!eqI a b))))
    | .lss => some (.t (.v (.bool (!leI b a))))
    | .leq => some (.t (.v (.bool (leI a b))))
    | .gtr => some (.t (.v (.bool (!leI a b))))
    | .geq => some (.t (.v (.bool (leI b a))))
    | _ => none)
  | _, _ => none
theorem fastB_ok {op : BinOp} {t : Nat} {x y z : LV} (h : fastB op x y = some z) : binL C op t x y = some z := by
  unfold fastB at h
  split at h
  rotate_left
  · cases h
  rename_i k a k' b
  obtain ⟨hk, h2⟩ := okIf_some h
  clear h
  have := kEq_eq hk
  subst this
  have lt : ∀ a b : Int, (!leI b a) = decide (a < b) := fun a b => by rw [leI_eq, ← decide_not, decide_eq_decide]; omega
  simp only [binL, binV, if_true]
  split at h2
  · obtain ⟨r, h1, rfl⟩ := fitE_ok (wr := C.wrap) h2; simp only [h1]
  · obtain ⟨r, h1, rfl⟩ := fitE_ok (wr := C.wrap) h2; simp only [h1]
  · cases h2; rw [eqI_eq]
  · cases h2; rw [eqI_eq]; rfl
  · cases h2; rw [lt]
  · cases h2; rw [leI_eq]
  · cases h2; rw [lt]
  · cases h2; rw [leI_eq]
  · cases h2
noncomputable def smallE (env : Env) : List Operand → Env
  | [] => []
  | o :: r => match o with
    | .tmp t => match lookR env t with
      | some x => (t, x) :: smallE env r
      | none => smallE env r
    | _ => smallE env r
theorem smallE_look {env : Env} {t : Nat} : ∀ {os : List Operand}, .tmp t ∈ os → look (smallE env os) t = look env t
  | [], h => by cases h
  | o :: r, h => by
    have key : ∀ t', .tmp t' = o → look (smallE env (o :: r)) t = if t' = t then look env t else look (smallE env r) t := by
      rintro t' rfl
      simp only [smallE, lookR_eq]
      cases hl : look env t' with
      | some x =>
        simp only [look_cons]
        split
        · rename_i he; subst he; exact hl.symm
        · rfl
      | none =>
        simp only
        split
        · rename_i he
          subst he
          rw [hl]
          have : ∀ {os : List Operand}, look (smallE env os) t' = none := by
            intro os
            induction os with
            | nil => rfl
            | cons p s ih =>
              cases p with
              | tmp u =>
                simp only [smallE, lookR_eq]
                cases hu : look env u with
                | some x =>
                  simp only [look_cons]
                  rw [if_neg]
                  · exact ih
                  · rintro rfl; rw [hl] at hu; cases hu
                | none => exact ih
              | _ => exact ih
          exact this
        · rfl
    by_cases ho : o = .tmp t
    · rw [key t ho.symm, if_pos rfl]
    · have hr : .tmp t ∈ r := (List.mem_cons.1 h).resolve_left fun he => ho he.symm
      cases o with
      | tmp t' =>
        rw [key t' rfl, if_neg (fun he => ho (by rw [he]))]
        exact smallE_look hr
      | _ => exact smallE_look (os := r) hr
def rootN : K → Option Nat
  | .cur s => some s
  | .fr _ _ => none
  | .sub k _ => rootN k
def nameN : LV → Option Nat
  | .ptr k _ => rootN k
  | .pel k _ _ _ => rootN k
  | .osl k _ _ _ => rootN k
  | .mpr k => rootN k
  | _ => none
noncomputable def smallF (cur : Fr) : Env → Fr
  | [] => []
  | p :: r => match nameN p.2 with
    | some s => match lookR cur s with
      | some o => (s, o) :: smallF cur r
      | none => smallF cur r
    | none => smallF cur r
theorem smallF_look {cur : Fr} {n : Nat} {o : Ob} : ∀ {e : Env}, look (smallF cur e) n = some o → look cur n = some o
  | [], h => by simp [smallF, look] at h
  | p :: r, h => by
    simp only [smallF, lookR_eq] at h
    split at h
    · split at h
      · rename_i hl
        rw [look_cons] at h
        split at h
        · rename_i he; subst he; cases h; exact hl
        · exact smallF_look h
      · exact smallF_look h
    · exact smallF_look h
noncomputable def pevS (C : Ctx) (out : List Fr) (cur : Fr) (op : Op) (e : Env) : Option LV := pev C e ⟨out, smallF cur e⟩ op
noncomputable def pevR (C : Ctx) (env : Env) (st : St) (op : Op) : Option LV := match op with
  | .move x => some (opdR env x)
  | .assign x => some (opdR env x)
  | .binOp bop t x y p => match fastB bop (opdR env x) (opdR env y) with
    | some r => some r
    | none => pevS C st.out st.cur (.binOp bop t x y p) (smallE env [x, y])
  | op => pevS C st.out st.cur op (smallE env op.operands.toList)
theorem pevS_ok {op : Op} {z : LV} {os : List Operand} (ho : op.operands.toList = os) (h : pevS C st.out st.cur op (smallE env os) = some z) : pev C env st op = some z := by
  subst ho
  unfold pevS at h
  rw [← pev_congr (env := env) (env' := smallE env op.operands.toList) fun x hx => opd_congr fun t ht => smallE_look (by subst ht; simpa using hx)]
  refine pev_mono (fun k o hk => ?_) h
  exact get_less (cur := smallF st.cur (smallE env op.operands.toList)) (fun n x hx => smallF_look hx) k o hk
theorem pevR_ok {op : Op} {z : LV} (h : pevR C env st op = some z) : pev C env st op = some z := by
  unfold pevR at h
  split at h
  · simp only [opdR_eq] at h; exact h
  · simp only [opdR_eq] at h; exact h
  · split at h
    · rename_i hf; cases h
      simp only [opdR_eq] at hf
      exact fastB_ok hf
    · exact pevS_ok rfl h
  · exact pevS_ok rfl h

/-! ### What is known of an operation ahead -/
noncomputable def loadR (C : Ctx) (st : St) (t : Nat) (x : LV) : Option LV := match C.ty t with
  | none => none
  | some ti => match x with
    | .pel k sz i j => match getR st k with
      | some (.row _ sz' es) => okIf (Nat.beq sz' sz) (match es[i]? with
        | some el => match ti.d.agg with
          | true => okIf (Nat.ble (j + ti.size) el.length) (some (.agg (((el.drop j).take ti.size).map .t)))
          | false => match el[j]? with
            | some x => some (.t x)
            | none => none
        | none => none)
      | o => loadPel ti k sz i j o
    | .ptr k c => match getR st k with
      | some (.box cs) => match ti.d.agg with
        | true => okIf (Nat.ble (c + ti.size) cs.length) (some (.agg ((cs.drop c).take ti.size)))
        | false => cs[c]?
      | _ => none
    | x => loadL C st t x
theorem loadR_ok {t : Nat} {x z : LV} (h : loadR C st t x = some z) : loadL C st t x = some z := by
  unfold loadR at h
  simp only [getR_eq] at h
  split at h
  · cases h
  rename_i ti hti
  split at h
  · simp only [loadL, hti]
    split at h
    · rename_i hg
      rw [hg]
      obtain ⟨hb, h⟩ := okIf_some h
      simp only [loadPel]
      rw [if_pos (Nat.eq_of_beq_eq_true hb)]
      split at h
      · rename_i el hel
        simp only [hel]
        split at h
        · rename_i ha
          obtain ⟨hf, h⟩ := okIf_some h
          simp only [ha]
          rw [if_pos (Nat.le_of_ble_eq_true hf)]; exact h
        · rename_i ha
          simp only [ha]; exact h
      · cases h
    · exact h
  · simp only [loadL, hti]
    split at h
    · rename_i hg
      rw [hg]
      simp only [loadPtr]
      split at h
      · rename_i ha
        obtain ⟨hf, h⟩ := okIf_some h
        simp only [ha]
        rw [if_pos (Nat.le_of_ble_eq_true hf)]; exact h
      · rename_i ha
        simp only [ha]; exact h
    · cases h
  · exact h
def idxR (C : Ctx) (t : Nat) (x i : LV) : Option LV := match C.ty t with
  | some ⟨.slice e, _, _, _⟩ => match C.ty e with
    | some ti => match i with
      | .t (.v (.int _ n)) => match x with
        | .t (.sl _ sz es) => okIf (Nat.beq sz ti.size && (Nat.blt 0 sz && leI 0 n)) (match es[n.toNat]? with
          | some el => some (.ipt el)
          | none => none)
        | .osl k sz off len => okIf (Nat.beq sz ti.size && (leI 0 n && !leI len n)) (some (.pel k sz (off + n.toNat) 0))
        | _ => none
      | _ => none
    | none => none
  | _ => none
theorem idxR_ok {t : Nat} {x i z : LV} (h : idxR C t x i = some z) : indexAddrL C t x i = some z := by
  unfold idxR at h
  split at h
  rotate_left
  · cases h
  rename_i e _ _ _ ht
  split at h
  rotate_left
  · cases h
  rename_i ti hti
  simp only [indexAddrL, ht, hti]
  split at h
  rotate_left
  · cases h
  split at h
  · obtain ⟨hf, h⟩ := okIf_some h
    simp only [Bool.and_eq_true, leI_eq, decide_eq_true_eq] at hf
    simp only
    rw [if_pos ⟨⟨Nat.eq_of_beq_eq_true hf.1, by simpa [Nat.blt_eq] using hf.2.1⟩, hf.2.2⟩]
    exact h
  · obtain ⟨hf, h⟩ := okIf_some h
    simp only [Bool.and_eq_true, leI_eq, decide_eq_true_eq, Bool.not_eq_true', decide_eq_false_iff_not] at hf
    simp only
    rw [if_pos ⟨Nat.eq_of_beq_eq_true hf.1, hf.2.1, by have := hf.2.2; omega⟩]
    exact h
  · cases h
inductive Dk where
  | mv (x : Operand)
  | bin (b : BinOp) (x y : Operand)
  | ld (t : Nat) (x : Operand)
  | ixa (t : Nat) (x i : Operand)
  | fa (s f : Nat) (x : Operand)
  | pur
  | oth
def dkOp : Op → Dk
  | .move x => .mv x
  | .assign x => .mv x
  | .binOp b _ x y _ => .bin b x y
  | .load t x => .ld t x
  | .indexAddr t x i => .ixa t x i
  | .fieldAddr s x f => .fa s f x
  | .extract _ _ => .pur
  | .field _ _ _ => .pur
  | .nilCheck _ => .pur
  | .pick _ _ _ => .pur
  | .unOp _ _ _ => .pur
  | .convert _ _ _ => .pur
  | .index _ _ _ => .pur
  | .build _ _ => .pur
  | .makeFunc _ _ _ => .pur
  | .slice _ _ _ _ _ => .pur
  | .lookup _ _ _ _ => .pur
  | _ => .oth
def Dk.isOth : Dk → Bool
  | .oth => true
  | _ => false
/-- Where an operation that only reads, and has no guard, puts what it finds. -/
def dkDst (o : Oper) : Option Nat := match o.guard with
  | some _ => none
  | none => match (dkOp o.op).isOth with
    | true => none
    | false => o.dst
noncomputable def exD (C : Ctx) (env : Env) (st : St) (op : Op) : Dk → Option LV
  | .mv x => some (opdR env x)
  | .bin b x y => match fastB b (opdR env x) (opdR env y) with
    | some z => some z
    | none => pevR C env st op
  | .ld t x => loadR C st t (opdR env x)
  | .ixa t x i => idxR C t (opdR env x) (opdR env i)
  | .fa s f x => fieldAddrL C s f (opdR env x)
  | _ => pevR C env st op
theorem exD_ok {op : Op} {z : LV} (h : exD C env st op (dkOp op) = some z) : pev C env st op = some z := by
  have other : pevR C env st op = some z → pev C env st op = some z := pevR_ok
  cases op <;> simp only [dkOp, exD, opdR_eq] at h <;> first
    | exact other h
    | exact h
    | exact loadR_ok h
    | exact idxR_ok h
    | (split at h
       · rename_i hf; cases h; exact fastB_ok hf
       · exact other h)
theorem dkDst_ok {o : Oper} {d : Nat} (h : dkDst o = some d) : o.guard = none ∧ o.dst = some d := by
  unfold dkDst at h
  split at h
  · cases h
  · rename_i hg
    split at h
    · cases h
    · exact ⟨hg, h⟩

/-- An operation that is no call of a function. -/
noncomputable def opE (C : Ctx) (s : Nat) (o : Op) (env : Env) (st : St) : Ev :=
  match o with
  | .alloc t => match C.ty t with
    | some ti => boxE env st s (some (ti.zero.map fun v => .t (ofV v)))
    | none => none
  | .box _ x => boxE env st s (cellsOf (opdR env x))
  | .makeSlice t l c => makeE C env st s t (opdR env l) (opdR env c)
  | .buildSlice t len parts => match lookR C.grd t with
    | none => litE C env st s t len parts.toList
    | some _ => litGE C env st s t len parts.toList
  | .store t x y => match storeE C env st t (opdR env x) (opdR env y) with
    | some (env, st) => some (.bad, env, st)
    | none => none
  | .call c => match c.callee with
    | .builtin .append => match c.args.toList, c.argTypes.toList with
      | [x, y], [t, t'] => okIf (Nat.beq t t') (match lookR C.grd t with
        | none => appTE C env st s t (opdR env x) (opdR env y)
        | some _ => appGE C env st s t (opdR env x) (opdR env y))
      | _, _ => none
    | .value _ => none
    | _ => match pevR C env st (.call c) with
      | some x => some (x, env, st)
      | none => none
  | .makeMap t n => match n with
    | none => mapMakeXE C env st s t
    | some _ => none
  | .range t x => rangeE C env st s t (opdR env x)
  | .next x isStr => match isStr with
    | false => match nextE st (opdR env x) with
      | some (x, st) => some (x, env, st)
      | none => none
    | true => none
  | .entry x => match entryE st (opdR env x) with
    | some x => some (x, env, st)
    | none => none
  | .mapUpdate t m k x => match mapSetXE C env st t (opdR env m) (opdR env k) (opdR env x) with
    | some (env, st) => some (.bad, env, st)
    | none => none
  | .insert t m k x => match mapSetXE C env st t (opdR env m) (opdR env k) (opdR env x) with
    | some (env, st) => some (.bad, env, st)
    | none => none
  | op => match pevR C env st op with
    | some x => some (x, env, st)
    | none => none

theorem opE_ok (hC : C.OK P) {s : Nat} {o : Oper} (h : opE C s o.op env st = some (x, env', st')) {E : Ent} {N : Nat} {β : K → Nat} {RO : Nat → Prop} {a : Act} {w : World} {Q : Act → World → Prop} (hs : SR E N β RO env st a w)
    (hQ : ∀ v β' RO' w', SR E N β' RO' env' st' a w' → VL β' RO' w' x v → Q (a.put o.dst v) w') : o.wp P a w Q fun _ _ _ => False := by
  have go : opWs C P s o env st (fun y e t => y = x ∧ e = env' ∧ St.le st' t) → o.wp P a w Q fun _ _ _ => False := fun hW =>
    opWs_sound hC hs hW fun v y e t β' RO' w' ⟨h1, h2, h3⟩ hs' hv => by subst h1; subst h2; exact hQ v β' RO' w' (hs'.less h3 fun _ _ h => h) hv
  have pure : pev C env st o.op = some x → env' = env → st' = st → o.wp P a w Q fun _ _ _ => False := fun hp he ht => by
    subst he; subst ht
    exact pevOK hC hp E N β RO a w Q hs fun v hv => hQ v β RO w hs hv
  have R : (fun y (e : Env) (t : St) => y = x ∧ e = env' ∧ St.le st' t) x env' st' := ⟨rfl, rfl, fun _ _ h => h⟩
  unfold opE at h
  simp only [lookR_eq, opdR_eq] at h
  split at h
  · rename_i t hop
    split at h
    · rename_i ti hti
      refine go ?_
      unfold opWs; rw [hop]; simp only [hti]
      exact boxE_ok (K' := fun x env st => strS st (_)) h (strS_intro R)
    · cases h
  · rename_i t y hop
    refine go ?_
    unfold opWs; rw [hop]
    exact boxE_ok (K' := fun x env st => strS st (_)) h (strS_intro R)
  · rename_i t l c hop
    refine go ?_
    unfold opWs; rw [hop]
    exact makeE_ok (K' := fun x env st => strS st (_)) h (strS_intro R)
  · rename_i t len parts hop
    refine go ?_
    unfold opWs; rw [hop]
    simp only
    split at h
    · rename_i hg; rw [hg]; exact litE_ok (K' := fun x env st => strES env st (_)) h (strES_intro R)
    · rename_i hg; rw [hg]; exact litGE_ok (K' := fun x env st => strES env st (_)) h (strES_intro R)
  · rename_i t y z hop
    split at h
    · rename_i env1 st1 h1
      cases h
      refine go ?_
      unfold opWs; rw [hop]
      exact storeE_ok (KS := fun env st => strES env st (_)) h1 fun t ht => strES_intro ⟨rfl, rfl, ht⟩
    · cases h
  · rename_i c hop
    split at h
    · rename_i hcal
      split at h
      · rename_i y z t t' ha ht
        obtain ⟨hb, h⟩ := okIf_some h
        refine go ?_
        unfold opWs; rw [hop]
        simp only
        unfold callOpW; rw [hcal]
        simp only [ha, ht, hb]
        split at h
        · rename_i hg; rw [hg]; exact appTE_ok (K' := fun x env st => strES env st (_)) h (strES_intro R)
        · rename_i hg; rw [hg]; exact appGE_ok (K' := fun x env st => strES env st (_)) h (strES_intro R)
      · cases h
    · cases h
    · split at h
      · rename_i y hy; cases h; exact pure (by rw [hop]; exact pevR_ok hy) rfl rfl
      · cases h
  · rename_i t n hop
    split at h
    · refine go ?_
      unfold opWs; rw [hop]
      exact mapMakeXE_ok (K' := fun x env st => strS st (_)) h (strS_intro R)
    · cases h
  · rename_i t y hop
    refine go ?_
    unfold opWs; rw [hop]
    exact rangeE_ok (K' := fun x env st => strES env st (_)) h (strES_intro R)
  · rename_i y b hop
    split at h
    · split at h
      · rename_i x1 st1 h1
        cases h
        refine go ?_
        unfold opWs; rw [hop]
        exact nextE_ok (KS := fun x st => strS st (_)) h1 (strS_intro R)
      · cases h
    · cases h
  · rename_i y hop
    split at h
    · rename_i x1 h1
      cases h
      refine go ?_
      unfold opWs; rw [hop]
      exact entryE_ok h1 R
    · cases h
  · rename_i t m k y hop
    split at h
    · rename_i env1 st1 h1
      cases h
      refine go ?_
      unfold opWs; rw [hop]
      exact mapSetXE_ok (KS := fun env st => strS st (_)) h1 (strS_intro R)
    · cases h
  · rename_i t m k y hop
    split at h
    · rename_i env1 st1 h1
      cases h
      refine go ?_
      unfold opWs; rw [hop]
      exact mapSetXE_ok (KS := fun env st => strS st (_)) h1 (strS_intro R)
    · cases h
  · split at h
    · rename_i y hy; cases h; exact pure (pevR_ok hy) rfl rfl
    · cases h
end
end Go.Fw

/- The value logic, part V2f: the same, laid out so that the kernel runs it faster (small pieces; what changes comes last). -/
namespace Go.Fw
open Go

/-! ### Operands -/
inductive OpK where
  | slot (t : Nat)
  | val (x : LV)
def opK (o : Operand) : OpK := match o with
  | .tmp t => match Nat.blt t 1000000 with
    | true => .slot t
    | false => .val .bad
  | .const v => match v.oneCell' with
    | true => .val (.t (ofV v))
    | false => .val .bad
  | .func f => .val (.fn f [])
  | .global _ => .val .bad
noncomputable def orBad (r : Option LV) : LV := Option.rec LV.bad (fun x => x) r
noncomputable def slotF (t : Nat) (env : Env) : LV := orBad (lookR env t)
def valF (x : LV) (_env : Env) : LV := x
noncomputable def opkF (k : OpK) : Env → LV := OpK.rec (fun t => slotF t) (fun x => valF x) k
noncomputable def opdF (env : Env) (o : Operand) : LV := opkF (opK o) env
theorem opdF_eq (env : Env) (o : Operand) : opdF env o = opdR env o := by
  cases o with
  | tmp t =>
    simp only [opdF, opK, opdR]
    cases Nat.blt t 1000000 with
    | true =>
      show orBad (lookR env t) = _
      cases lookR env t <;> rfl
    | false => rfl
  | const v => simp only [opdF, opK, opdR, opd]; cases v.oneCell' <;> rfl
  | func f => rfl
  | global g => rfl

/-! ### Whole numbers -/
def asInt (x : LV) : Option (IntKind × Int) := match x with
  | .t (.v (.int k a)) => some (k, a)
  | _ => none
def fnB (b : BinOp) : Option (IntKind → Int → Int → Option LV) := match b with
  | .add => some fun k a b => fitE k (a + b)
  | .sub => some fun k a b => fitE k (a - b)
  | .eql => some fun _ a b => some (.t (.v (.bool (eqI a b))))
  | .neq => some fun _ a b => some (.t (.v (.bool (!eqI a b))))
  | .lss => some fun _ a b => some (.t (.v (.bool (!leI b a))))
  | .leq => some fun _ a b => some (.t (.v (.bool (leI a b))))
  | .gtr => some fun _ a b => some (.t (.v (.bool (!leI a b))))
  | .geq => some fun _ a b => some (.t (.v (.bool (leI b a))))
  | _ => none
noncomputable def bin3 (f : IntKind → Int → Int → Option LV) (p q : IntKind × Int) : Option LV := okIf (kEq p.1 q.1) (f p.1 p.2 q.2)
noncomputable def bin2 (f : IntKind → Int → Int → Option LV) (x y : Option (IntKind × Int)) : Option LV := Option.rec none (fun p => Option.rec none (fun q => bin3 f p q) y) x
noncomputable def fastF (b : BinOp) (x y : LV) : Option LV := Option.rec none (fun f => bin2 f (asInt x) (asInt y)) (fnB b)
theorem fastF_ok {b : BinOp} {x y z : LV} (h : fastF b x y = some z) : fastB b x y = some z := by
  unfold fastF at h
  cases hb : fnB b with
  | none => rw [hb] at h; cases h
  | some f =>
    rw [hb] at h
    simp only at h
    cases hx : asInt x with
    | none => rw [hx] at h; cases h
    | some p =>
      cases hy : asInt y with
      | none => rw [hx, hy] at h; cases h
      | some q =>
        rw [hx, hy] at h
        have inv : ∀ {x : LV} {p : IntKind × Int}, asInt x = some p → x = .t (.v (.int p.1 p.2)) := by
          intro x p h
          unfold asInt at h
          split at h
          · cases h; rfl
          · cases h
        rw [inv hx, inv hy]
        simp only [bin2, bin3] at h
        obtain ⟨h1, h2⟩ := okIf_some h
        simp only [fastB, h1, okIf]
        cases b <;> simp only [fnB, reduceCtorEq, Option.some.injEq] at hb <;> subst hb <;> exact h2

/-! ### Loads -/
inductive PK where
  | pel (k : K) (sz i j : Nat)
  | ptr (k : K) (c : Nat)
  | oth
def asPtr (x : LV) : PK := match x with
  | .pel k sz i j => .pel k sz i j
  | .ptr k c => .ptr k c
  | _ => .oth
def asRow (o : Option Ob) : Option (Nat × List (List T)) := match o with
  | some (.row _ sz es) => some (sz, es)
  | _ => none
def asBox (o : Option Ob) : Option (List LV) := match o with
  | some (.box cs) => some cs
  | _ => none
def plainD (ti : TI) : Bool := !ti.d.agg
noncomputable def getEl (es : List (List T)) (i : Nat) : Option (List T) := List.rec (motive := fun _ => Nat → Option (List T)) (fun _ => none) (fun x _ ih n => Nat.rec (some x) (fun m _ => ih m) n) es i
noncomputable def getX {α : Type} (es : List α) (i : Nat) : Option α := List.rec (motive := fun _ => Nat → Option α) (fun _ => none) (fun x _ ih n => Nat.rec (some x) (fun m _ => ih m) n) es i
theorem getX_eq {α : Type} : ∀ (es : List α) (i : Nat), getX es i = es[i]?
  | [], i => by simp [getX]
  | x :: r, 0 => rfl
  | x :: r, i + 1 => by
    have := getX_eq r i
    rw [List.getElem?_cons_succ, ← this]; rfl
noncomputable def ldT (x : Option T) : Option LV := Option.rec none (fun x => some (.t x)) x
noncomputable def ldEl (j : Nat) (x : Option (List T)) : Option LV := Option.rec none (fun el => ldT (getX el j)) x
noncomputable def ldRow (sz i j : Nat) (p : Nat × List (List T)) : Option LV := okIf (Nat.beq p.1 sz) (ldEl j (getX p.2 i))
noncomputable def loadF (C : Ctx) (t : Nat) (x : LV) (st : St) : Option LV := Option.rec none (fun ti => Bool.rec (loadR C st t x) (PK.rec (motive := fun _ => St → Option LV)
    (fun k sz i j st => Option.rec (loadR C st t x) (fun p => ldRow sz i j p) (asRow (getR st k)))
    (fun k c st => Option.rec none (fun cs => getX cs c) (asBox (getR st k)))
    (fun st => loadR C st t x) (asPtr x) st) (plainD ti)) (C.ty t)
theorem loadF_eq {C : Ctx} {t : Nat} {x : LV} {st : St} : loadF C t x st = loadR C st t x := by
  unfold loadF
  cases hti : C.ty t with
  | none => simp only [loadR, hti]
  | some ti =>
    simp only
    cases hp : plainD ti with
    | false => rfl
    | true =>
      have ha : ti.d.agg = false := by simpa [plainD] using hp
      simp only
      cases x <;> simp only [asPtr]
      · rename_i k c
        simp only [loadR, hti]
        cases hg : getR st k with
        | none => rfl
        | some o => cases o <;> simp only [asBox, ha, getX_eq]
      · rename_i k sz i j
        cases hg : getR st k with
        | none => rfl
        | some o =>
          cases o <;> simp only [asRow]
          simp only [loadR, hti, hg, ldRow, ha, getX_eq]
          rename_i es
          cases hes : es[i]? with
          | none => rfl
          | some el =>
            simp only [ldEl, getX_eq]
            cases hel : el[j]? <;> rfl

/-! ### What only reads -/
noncomputable def exMv (x : Operand) (env : Env) (_st : St) : Option LV := some (opdF env x)
noncomputable def binOr (C : Ctx) (op : Op) (r : Option LV) (env : Env) (st : St) : Option LV := Option.rec (motive := fun _ => Env → St → Option LV) (fun env st => pevR C env st op) (fun z _ _ => some z) r env st
noncomputable def exBin (C : Ctx) (op : Op) (b : BinOp) (x y : Operand) (env : Env) (st : St) : Option LV := binOr C op (fastF b (opdF env x) (opdF env y)) env st
noncomputable def exLd (C : Ctx) (t : Nat) (x : Operand) (env : Env) (st : St) : Option LV := loadF C t (opdF env x) st
noncomputable def exIx (C : Ctx) (t : Nat) (x i : Operand) (env : Env) (_st : St) : Option LV := idxR C t (opdF env x) (opdF env i)
noncomputable def exFa (C : Ctx) (s f : Nat) (x : Operand) (env : Env) (_st : St) : Option LV := fieldAddrL C s f (opdF env x)
noncomputable def exDF (C : Ctx) (op : Op) (dk : Dk) : Env → St → Option LV := Dk.rec (motive := fun _ => Env → St → Option LV) (fun x => exMv x) (fun b x y => exBin C op b x y) (fun t x => exLd C t x) (fun t x i => exIx C t x i) (fun s f x => exFa C s f x) (fun env st => pevR C env st op) (fun env st => pevR C env st op) dk
theorem exDF_ok {C : Ctx} {op : Op} {dk : Dk} {env : Env} {st : St} {z : LV} (hd : dk = dkOp op) (h : exDF C op dk env st = some z) : pev C env st op = some z := by
  subst hd
  have key : exDF C op (dkOp op) env st = some z → exD C env st op (dkOp op) = some z ∨ pevR C env st op = some z := by
    intro h
    cases hk : dkOp op with
    | mv x => rw [hk] at h; left; have h' : some (opdF env x) = some z := h; rw [opdF_eq] at h'; exact h'
    | bin b x y =>
      rw [hk] at h
      have h' : binOr C op (fastF b (opdF env x) (opdF env y)) env st = some z := h
      unfold binOr at h'
      cases hf : fastF b (opdF env x) (opdF env y) with
      | some r =>
        rw [hf] at h'
        left
        simp only [opdF_eq] at hf
        simp only [exD, fastF_ok hf]; exact h'
      | none => rw [hf] at h'; exact .inr h'
    | ld t x => rw [hk] at h; left; have h' : loadF C t (opdF env x) st = some z := h; rw [loadF_eq, opdF_eq] at h'; exact h'
    | ixa t x i => rw [hk] at h; left; have h' : idxR C t (opdF env x) (opdF env i) = some z := h; rw [opdF_eq, opdF_eq] at h'; exact h'
    | fa s f x => rw [hk] at h; left; have h' : fieldAddrL C s f (opdF env x) = some z := h; rw [opdF_eq] at h'; exact h'
    | pur => rw [hk] at h; exact .inr h
    | oth => rw [hk] at h; exact .inr h
  rcases key h with h | h
  · exact exD_ok h
  · exact pevR_ok h
end Go.Fw

/- The program's data. -/
namespace Go.Fw
open Go

/-! ### The program's data -/
structure Lit where
  fact : Int
  neg : Bool
  deriving DecidableEq
structure Eff where
  nil : Bool
  when_ : List Lit
  lit : Lit
structure Actn where
  name : ByteArray
  cost : Int
  pn : Bool
  pre : List Lit
  en : Bool
  effs : List Eff
structure Task where
  fn : Bool
  facts : List ByteArray
  ni : Bool
  init : List Int
  gn : Bool
  goal : List Lit
  an : Bool
  acts : List Actn

def tI (n : Int) : List T := [.v (.int .i64 n)]
def tB (b : Bool) : List T := [.v (.bool b)]
def tS (s : ByteArray) : List T := [.v (.string s)]
def tLit (l : Lit) : List T := [.v (.int .i64 l.fact), .v (.bool l.neg)]
def tEff (e : Eff) : List T := [.sl e.nil 2 (e.when_.map tLit), .v (.int .i64 e.lit.fact), .v (.bool e.lit.neg)]
def tAct (a : Actn) : List T := [.v (.string a.name), .v (.int .i64 a.cost), .sl a.pn 2 (a.pre.map tLit), .sl a.en 3 (a.effs.map tEff)]
def tTask (t : Task) : List T := [.sl t.fn 1 (t.facts.map tS), .sl t.ni 1 (t.init.map tI), .sl t.gn 2 (t.goal.map tLit), .sl t.an 4 (t.acts.map tAct)]
abbrev LV.ints (nl : Bool) (l : List Int) : LV := .t (.sl nl 1 (l.map tI))
abbrev LV.lits (nl : Bool) (l : List Lit) : LV := .t (.sl nl 2 (l.map tLit))
abbrev LV.bools (nl : Bool) (l : List Bool) : LV := .t (.sl nl 1 (l.map tB))
abbrev LV.lit (l : Lit) : LV := .agg [.t (.v (.int .i64 l.fact)), .t (.v (.bool l.neg))]
abbrev LV.act (a : Actn) : LV := .agg [.t (.v (.string a.name)), .t (.v (.int .i64 a.cost)), .t (.sl a.pn 2 (a.pre.map tLit)), .t (.sl a.en 3 (a.effs.map tEff))]
abbrev LV.task (t : Task) : LV := .agg [.t (.sl t.fn 1 (t.facts.map tS)), .t (.sl t.ni 1 (t.init.map tI)), .t (.sl t.gn 2 (t.goal.map tLit)), .t (.sl t.an 4 (t.acts.map tAct))]

/-! ### Helpers for loops over lists -/
theorem lt_of_dec {α β : Type} {l : List α} {f : α → β} {i : Nat} (h : decide ((i : Int) < ((l.map f).length : Int)) = true) : i < l.length := by simpa using h
theorem ge_of_dec {α β : Type} {l : List α} {f : α → β} {i : Nat} (h : decide ((i : Int) < ((l.map f).length : Int)) = false) : l.length ≤ i := by simpa using h
theorem get_map {α β : Type} {l : List α} {f : α → β} {i : Nat} (h : i < l.length) : (l.map f)[((i : Int)).toNat]? = some (f l[i]) := by simp [h]
theorem le_max {α β : Type} {l : List α} {f : α → β} (h : (l.map f).length ≤ maxLen) : (l.length : Int) ≤ 9223372036854775807 := by
  rw [List.length_map] at h; unfold maxLen at h; omega

theorem all_false {α : Type} {l : List α} {p : α → Bool} {i : Nat} (hi : i < l.length) (h : p l[i] = false) : l.all p = false := by
  cases hh : l.all p with
  | false => rfl
  | true => rw [List.all_eq_true.1 hh _ (List.getElem_mem hi)] at h; cases h
theorem any_true {α : Type} {l : List α} {p : α → Bool} {i : Nat} (hi : i < l.length) (h : p l[i] = true) : l.any p = true := List.any_eq_true.2 ⟨_, List.getElem_mem hi, h⟩
theorem all_step {α : Type} {l : List α} {p : α → Bool} {i : Nat} (hi : i < l.length) (h : (l.take i).all p = true) (h2 : p l[i] = true) : (l.take (i + 1)).all p = true := by
  rw [List.take_add_one, List.all_append, h]; simp [hi, h2]
theorem any_step {α : Type} {l : List α} {p : α → Bool} {i : Nat} (hi : i < l.length) (h : (l.take i).any p = false) (h2 : p l[i] = false) : (l.take (i + 1)).any p = false := by
  rw [List.take_add_one, List.any_append, h]; simp [hi, h2]
theorem all_end {α : Type} {l : List α} {p : α → Bool} {i : Nat} (hi : l.length ≤ i) (h : (l.take i).all p = true) : l.all p = true := by
  rwa [List.take_of_length_le hi] at h
theorem any_end {α : Type} {l : List α} {p : α → Bool} {i : Nat} (hi : l.length ≤ i) (h : (l.take i).any p = false) : l.any p = false := by
  rwa [List.take_of_length_le hi] at h
theorem ret_bool {b c : Bool} {ro : Fr} (h : c = b) (h2 : ro = []) : LV.t (.v (.bool b)) = .bool c ∧ ro = [] := ⟨by rw [h]; rfl, h2⟩

/-! ### Nil slices of any element -/
theorem SpecP.conv1 {P : Program} {f : Nat} {x y : LV} {out : List Fr} {Post : LV → Fr → Prop} (hxy : ∀ (β : K → Nat) (RO : Nat → Prop) (w : World) (v : Value), VL β RO w x v → VL β RO w y v) (h : SpecP P f [y] out Post) : SpecP P f [x] out Post :=
  ⟨h.fn, fun β RO w vals hw hv => h.calls β RO w vals hw ⟨hv.1, fun i z v hz hvz => by
    match i with
    | 0 => simp at hz; subst hz; exact hxy β RO w v (hv.2 0 x v rfl hvz)
    | i + 1 => simp at hz⟩⟩
theorem nil_sz {a b : Nat} (β : K → Nat) (RO : Nat → Prop) (w : World) (v : Value) (h : VL β RO w (.t (.sl true a [])) v) : VL β RO w (.t (.sl true b [])) v := by
  cases h with
  | t _ _ h => cases h; exact .t _ _ (.nil b)

end Go.Fw

/- Heaps of items in lists: what 'up' and 'down' of the standard heap do. -/
namespace Go.Fw.Heap

abbrev Item := Int × Int

def at_ (l : List Item) (j : Nat) : Item := l.getD j (0, 0)
def vl (l : List Item) (j : Nat) : Int := (at_ l j).2
def swapL (l : List Item) (i j : Nat) : List Item := (l.set i (at_ l j)).set j (at_ l i)

theorem at_get {l : List Item} {j : Nat} (h : j < l.length) : l[j]? = some (at_ l j) := by simp [at_, h]
theorem swapL_length (l : List Item) (i j : Nat) : (swapL l i j).length = l.length := by simp [swapL]
theorem at_swap {l : List Item} {i j : Nat} (hi : i < l.length) (hj : j < l.length) (k : Nat) : at_ (swapL l i j) k = if k = j then at_ l i else if k = i then at_ l j else at_ l k := by
  unfold swapL at_
  simp only [List.getD_eq_getElem?_getD, List.getElem?_set]
  by_cases h1 : j = k
  · subst h1; simp [hj]
  · rw [if_neg h1, if_neg (Ne.symm h1)]
    by_cases h2 : i = k
    · subst h2; simp [hi]
    · rw [if_neg h2, if_neg (Ne.symm h2)]
theorem vl_swap {l : List Item} {i j : Nat} (hi : i < l.length) (hj : j < l.length) (k : Nat) : vl (swapL l i j) k = if k = j then vl l i else if k = i then vl l j else vl l k := by
  unfold vl; rw [at_swap hi hj]; split
  · rfl
  · split <;> rfl

theorem swapL_perm {l : List Item} {i j : Nat} (hi : i < l.length) (hj : j < l.length) : (swapL l i j).Perm l := by
  classical
  have key : ∀ (l : List Item) (i : Nat) (x : Item), i < l.length → (l.set i x).Perm (x :: l.eraseIdx i) := by
    intro l
    induction l with
    | nil => intro i x h; simp at h
    | cons y r ih =>
      intro i x h
      cases i with
      | zero => simp
      | succ i =>
        simp only [List.set_cons_succ, List.eraseIdx_cons_succ]
        exact ((ih i x (by simpa using h)).cons y).trans (List.Perm.swap _ _ _)
  by_cases hij : i = j
  · subst hij
    have : swapL l i i = l := by
      unfold swapL at_
      apply List.ext_getElem?
      intro k
      simp only [List.getElem?_set, List.length_set]
      by_cases h : i = k
      · subst h; simp [hi]
      · simp [h]
    rw [this]
  · refine List.perm_iff_count.2 fun a => ?_
    unfold swapL
    have h1 := (key (l.set i (at_ l j)) j (at_ l i) (by simpa using hj)).count_eq a
    have h3 : (l.set i (at_ l j)).Perm (at_ l j :: l.eraseIdx i) := key l i _ hi
    have h4 : l.Perm (at_ l i :: l.eraseIdx i) := by
      have := key l i (at_ l i) hi
      have e : l.set i (at_ l i) = l := by
        apply List.ext_getElem?
        intro k
        simp only [List.getElem?_set, at_]
        by_cases h : i = k
        · subst h; simp [hi]
        · simp [h]
      rwa [e] at this
    have h5 : (l.set i (at_ l j)).Perm (at_ l j :: (l.set i (at_ l j)).eraseIdx j) := by
      have := key (l.set i (at_ l j)) j (at_ l j) (by simpa using hj)
      have e : (l.set i (at_ l j)).set j (at_ l j) = l.set i (at_ l j) := by
        apply List.ext_getElem?
        intro k
        simp only [List.getElem?_set, List.length_set, at_]
        by_cases h : j = k
        · subst h; simp [hj, hij]
        · simp [h]
      rwa [e] at this
    have c3 := h3.count_eq a
    have c4 := h4.count_eq a
    have c5 := h5.count_eq a
    simp only [List.count_cons] at h1 c3 c4 c5 ⊢
    omega

def upL (l : List Item) (j : Nat) : List Item :=
  if _h : j = 0 then l else if vl l j < vl l ((j - 1) / 2) then upL (swapL l ((j - 1) / 2) j) ((j - 1) / 2) else l
termination_by j
decreasing_by omega

def kid (l : List Item) (i n : Nat) : Nat := if 2 * i + 2 < n ∧ vl l (2 * i + 2) < vl l (2 * i + 1) then 2 * i + 2 else 2 * i + 1
theorem kid_gt (l : List Item) (i n : Nat) : i < kid l i n := by unfold kid; split <;> omega
theorem kid_lt {l : List Item} {i n : Nat} (h : 2 * i + 1 < n) : kid l i n < n := by unfold kid; split <;> omega
def downL (l : List Item) (i n : Nat) : List Item :=
  if _h : 2 * i + 1 < n then if vl l (kid l i n) < vl l i then downL (swapL l i (kid l i n)) (kid l i n) n else l else l
termination_by n - i
decreasing_by have := kid_gt l i n; have := kid_lt (l := l) ‹2 * i + 1 < n›; omega

def HP (l : List Item) (n : Nat) : Prop := ∀ j, 0 < j → j < n → vl l ((j - 1) / 2) ≤ vl l j

theorem up_spec : ∀ (j : Nat) (l : List Item), j < l.length → (upL l j).Perm l ∧ (upL l j).length = l.length ∧
    ((∀ k, 0 < k → k < l.length → k ≠ j → vl l ((k - 1) / 2) ≤ vl l k) → (∀ k, 0 < k → k < l.length → (k - 1) / 2 = j → 0 < j → vl l ((j - 1) / 2) ≤ vl l k) → HP (upL l j) l.length) := by
  intro j
  induction j using Nat.strongRecOn with
  | _ j ih =>
  intro l hj
  unfold upL
  split
  · rename_i h0
    subst h0
    exact ⟨.refl _, rfl, fun h1 _ k hk hl => h1 k hk hl (by omega)⟩
  · rename_i h0
    split
    · rename_i hlt
      have hp : (j - 1) / 2 < l.length := by omega
      obtain ⟨a, b, c⟩ := ih ((j - 1) / 2) (by omega) (swapL l ((j - 1) / 2) j) (by rw [swapL_length]; exact hp)
      rw [swapL_length] at b c
      refine ⟨a.trans (swapL_perm hp hj), b, fun h1 h2 => c ?_ ?_⟩
      · intro k hk hl hne
        rw [vl_swap hp hj, vl_swap hp hj]
        by_cases e1 : k = j
        · subst e1
          rw [if_neg (by omega), if_pos rfl, if_pos rfl]; omega
        · rw [if_neg e1, if_neg hne]
          by_cases e2 : (k - 1) / 2 = j
          · rw [if_pos e2]; exact h2 k hk hl e2 (by omega)
          · rw [if_neg e2]
            by_cases e3 : (k - 1) / 2 = (j - 1) / 2
            · rw [if_pos e3]
              have := h1 k hk hl e1
              rw [e3] at this; omega
            · rw [if_neg e3]; exact h1 k hk hl e1
      · intro k hk hl he h0'
        rw [vl_swap hp hj, vl_swap hp hj]
        rw [if_neg (by omega), if_neg (by omega)]
        have hpp := h1 ((j - 1) / 2) h0' hp (by omega)
        by_cases e1 : k = j
        · rw [if_pos e1]; exact hpp
        · rw [if_neg e1]
          by_cases e2 : k = (j - 1) / 2
          · omega
          · rw [if_neg e2]
            have := h1 k hk hl e1
            rw [he] at this; omega
    · rename_i hge
      refine ⟨.refl _, rfl, fun h1 _ k hk hl => ?_⟩
      by_cases e : k = j
      · subst e; omega
      · exact h1 k hk hl e

theorem down_spec : ∀ (d : Nat) (n i : Nat) (l : List Item), n - i = d → n ≤ l.length → i < l.length → (downL l i n).Perm l ∧ (downL l i n).length = l.length ∧ (∀ k, n ≤ k → at_ (downL l i n) k = at_ l k) ∧
    ((∀ k, 0 < k → k < n → (k - 1) / 2 ≠ i → vl l ((k - 1) / 2) ≤ vl l k) → (∀ k, 0 < k → k < n → (k - 1) / 2 = i → 0 < i → vl l ((i - 1) / 2) ≤ vl l k) → HP (downL l i n) n) := by
  intro d
  induction d using Nat.strongRecOn with
  | _ d ih =>
  intro n i l hd hn hi
  unfold downL
  split
  · rename_i h0
    have hkn := kid_lt (l := l) h0
    have hki := kid_gt l i n
    have hkp : (kid l i n - 1) / 2 = i := by unfold kid; split <;> omega
    have hkl : kid l i n < l.length := by omega
    have hmin : ∀ k, 0 < k → k < n → (k - 1) / 2 = i → vl l (kid l i n) ≤ vl l k := by
      intro k hk hl he
      have : k = 2 * i + 1 ∨ k = 2 * i + 2 := by omega
      unfold kid
      split
      · rename_i h
        rcases this with rfl | rfl
        · omega
        · exact Int.le_refl _
      · rename_i h
        rcases this with rfl | rfl
        · exact Int.le_refl _
        · by_cases h3 : vl l (2 * i + 2) < vl l (2 * i + 1)
          · exact absurd ⟨hl, h3⟩ h
          · omega
    split
    · rename_i hlt
      obtain ⟨a, b, c, e⟩ := ih (n - kid l i n) (by omega) n (kid l i n) (swapL l i (kid l i n)) rfl (by rw [swapL_length]; exact hn) (by rw [swapL_length]; exact hkl)
      rw [swapL_length] at b
      refine ⟨a.trans (swapL_perm hi hkl), b, fun k hk => ?_, fun h1 h2 => e ?_ ?_⟩
      · rw [c k hk, at_swap hi hkl, if_neg (by omega), if_neg (by omega)]
      · intro k hk hl hne
        rw [vl_swap hi hkl, vl_swap hi hkl]
        rw [if_neg hne]
        by_cases e1 : k = kid l i n
        · rw [if_pos e1, if_pos (by omega)]; omega
        · rw [if_neg e1]
          by_cases e2 : (k - 1) / 2 = i
          · rw [if_pos e2, if_neg (by omega)]; exact hmin k hk hl e2
          · rw [if_neg e2]
            by_cases e3 : k = i
            · rw [if_pos e3, e3]
              exact h2 _ (by omega) hkn hkp (by omega)
            · rw [if_neg e3]; exact h1 k hk hl e2
      · intro k hk hl he h0'
        rw [vl_swap hi hkl, vl_swap hi hkl]
        rw [hkp, if_neg (by omega), if_pos rfl, if_neg (by omega), if_neg (by omega)]
        have := h1 k hk hl (by omega)
        rw [he] at this; exact this
    · rename_i hge
      refine ⟨.refl _, rfl, fun _ _ => rfl, fun h1 h2 k hk hl => ?_⟩
      by_cases e : (k - 1) / 2 = i
      · have := hmin k hk hl e; rw [e]; omega
      · exact h1 k hk hl e
  · rename_i h0
    exact ⟨.refl _, rfl, fun _ _ => rfl, fun h1 h2 k hk hl => h1 k hk hl (by omega)⟩

theorem HP.root {l : List Item} {n : Nat} (h : HP l n) : ∀ j, j < n → vl l 0 ≤ vl l j := by
  intro j
  induction j using Nat.strongRecOn with
  | _ j ih =>
  intro hj
  by_cases h0 : j = 0
  · subst h0; exact Int.le_refl _
  · have := ih ((j - 1) / 2) (by omega) (by omega)
    have := h j (by omega) hj
    omega

/-- What 'Push' leaves. -/
def pushL (l : List Item) (x : Item) : List Item := upL (l ++ [x]) l.length
theorem push_spec {l : List Item} {x : Item} (h : HP l l.length) : (pushL l x).Perm (x :: l) ∧ (pushL l x).length = l.length + 1 ∧ HP (pushL l x) (pushL l x).length := by
  obtain ⟨a, b, c⟩ := up_spec l.length (l ++ [x]) (by simp)
  have hv : ∀ k, k < l.length → vl (l ++ [x]) k = vl l k := fun k hk => by simp [vl, at_, List.getElem?_append_left hk]
  have hp : (pushL l x).Perm (x :: l) := a.trans List.perm_append_comm
  have hl : (pushL l x).length = l.length + 1 := b.trans (by simp)
  refine ⟨hp, hl, ?_⟩
  rw [hl]
  have := c (fun k hk hl hne => ?_) (fun k hk hl he h0 => ?_)
  · rw [List.length_append, List.length_singleton] at this; exact this
  · simp only [List.length_append, List.length_singleton] at hl
    rw [hv _ (by omega), hv _ (by omega)]; exact h k hk (by omega)
  · simp only [List.length_append, List.length_singleton] at hl; omega

/-- What 'Pop' leaves in the row ahead of the last step: the least item is the last one. -/
def popL (l : List Item) : List Item := downL (swapL l 0 (l.length - 1)) 0 (l.length - 1)
theorem pop_spec {l : List Item} (h : HP l l.length) (h0 : 0 < l.length) : (popL l).length = l.length ∧ at_ (popL l) (l.length - 1) = at_ l 0 ∧
    l.Perm (at_ l 0 :: (popL l).take (l.length - 1)) ∧ HP ((popL l).take (l.length - 1)) (l.length - 1) ∧ ∀ x ∈ l, (at_ l 0).2 ≤ x.2 := by
  have hs : l.length - 1 < l.length := by omega
  obtain ⟨a, b, c, d⟩ := down_spec _ (l.length - 1) 0 (swapL l 0 (l.length - 1)) rfl (by rw [swapL_length]; omega) (by rw [swapL_length]; exact h0)
  rw [swapL_length] at b
  have hlast : at_ (popL l) (l.length - 1) = at_ l 0 := by
    unfold popL
    rw [c _ (Nat.le_refl _), at_swap h0 hs, if_pos rfl]
  have hlen : (popL l).length = l.length := b
  have hperm : (popL l).Perm l := a.trans (swapL_perm h0 hs)
  have hsplit : popL l = (popL l).take (l.length - 1) ++ [at_ l 0] := by
    apply List.ext_getElem?
    intro k
    by_cases hk : k < l.length - 1
    · rw [List.getElem?_append_left (by simp [hlen]; omega), List.getElem?_take, if_pos hk]
    · rw [List.getElem?_append_right (by simp [hlen]; omega)]
      simp only [List.length_take, hlen]
      by_cases hk2 : k = l.length - 1
      · subst hk2
        rw [Nat.min_eq_left (by omega), Nat.sub_self, at_get (by omega), hlast]; rfl
      · rw [List.getElem?_eq_none (by omega), List.getElem?_eq_none (by simp; omega)]
  refine ⟨hlen, hlast, ?_, ?_, ?_⟩
  · refine hperm.symm.trans ?_
    conv => lhs; rw [hsplit]
    exact List.perm_append_comm
  · have hd : HP (popL l) (l.length - 1) := d (fun k hk hl hne => ?_) (fun k hk hl he h => absurd h (Nat.lt_irrefl 0))
    · intro k hk hl
      have e : ∀ k, k < l.length - 1 → vl ((popL l).take (l.length - 1)) k = vl (popL l) k := fun k hk => by simp [vl, at_, hk]
      rw [e _ hl, e _ (by omega)]; exact hd k hk hl
    · rw [vl_swap h0 hs, vl_swap h0 hs, if_neg (by omega), if_neg (by omega), if_neg (by omega), if_neg (by omega)]
      exact h k hk (by omega)
  · intro x hx
    obtain ⟨j, hj, rfl⟩ := List.getElem_of_mem hx
    have := h.root j hj
    simpa [vl, at_, hj] using this

end Go.Fw.Heap

/- The value logic, part V3: code that is run. -/
namespace Go.Fw
open Go

abbrev CallE := Nat → List LV → Nat → Env → St → Option (LV × (Env × (St × Nat)))
abbrev ExtE := Nat → List Value → Option LV
def CallOK (P : Program) (H : CallE) : Prop := ∀ (f k : Nat) (args : List LV) (env : Env) (st : St) (x : LV) (env' : Env) (st' : St) (k' : Nat), H f args k env st = some (x, env', st', k') →
  ∀ (E : Ent) (N : Nat) (β : K → Nat) (RO : Nat → Prop) (a : Act) (w : World) (vals : List Value), SR E N β RO env st a w → Vals β RO w args vals →
    FnOK P f ∧ Calls P f vals.toArray w fun e w' => ∃ v β' RO', e = .returned v ∧ SR E N β' RO' env' st' a w' ∧ VL β' RO' w' x v
def ExtOK (P : Program) (X : ExtE) : Prop := ∀ f vs y, X f vs = some y → ExtV P f vs y
def noX : ExtE := fun _ _ => none
theorem noX_ok {P : Program} : ExtOK P noX := fun _ _ _ h => by cases h

noncomputable def gdR (ops : List Oper) (env : Env) (o : Oper) : Option Bool :=
  match o.guard with
  | none => some true
  | some (j, want) => match nth ops j with
    | some p => match p.dst with
      | some d => match lookR env d with
        | some (.t (.v (.bool b))) => some (match want with | true => b | false => !b)
        | some (.tup []) => some false
        | _ => none
      | none => none
    | none => none
theorem gdR_eq (ops : List Oper) (env : Env) (o : Oper) : gdR ops env o = gdE ops env o := by
  unfold gdR gdE
  simp only [lookR_eq]
  rfl
noncomputable def plus2 (C : Ctx) (o : Oper) (env : Env) (st : St) (k : Nat) : Option (LV × (Env × (St × Nat))) := match opE C k o.op env st with
  | some (x, env, st) => some (x, env, st, k + 2)
  | none => none
noncomputable def op0E (C : Ctx) (X : ExtE) (H : CallE) (o : Oper) (env : Env) (st : St) (k : Nat) : Option (LV × (Env × (St × Nat))) :=
  match o.op with
  | .call c => match c.callee with
    | .value fo => match opdR env fo with
      | .fn f cap => match lookR C.exb f, cap with
        | some _, [] => match valsV (c.args.toList.map (opdR env)) with
          | some vs => match X f vs with
            | some y => some (y, env, st, k)
            | none => none
          | none => none
        | _, cap => H f (c.args.toList.map (opdR env) ++ capArgs cap) k env st
      | .ifc (.bd f) x => H f (x :: c.args.toList.map (opdR env)) k env st
      | _ => none
    | _ => plus2 C o env st k
  | _ => plus2 C o env st k

/-! ### Equal values -/
def vEqb : Value → Value → Bool
  | .int k a, .int k' b => decide (k = k') && decide (a = b)
  | .bool a, .bool b => decide (a = b)
  | .string a, .string b => decide (a = b)
  | .pointer none, .pointer none => true
  | .map none, .map none => true
  | .nilFunc, .nilFunc => true
  | .nilIface, .nilIface => true
  | _, _ => false
theorem vEqb_eq : ∀ {a b : Value}, vEqb a b = true → a = b := by
  intro a b h
  unfold vEqb at h
  split at h
  · simp only [Bool.and_eq_true, decide_eq_true_eq] at h; rw [h.1, h.2]
  · simp only [decide_eq_true_eq] at h; rw [h]
  · simp only [decide_eq_true_eq] at h; rw [h]
  · rfl
  · rfl
  · rfl
  · rfl
  · cases h
mutual
def tEqb : T → T → Bool
  | .v a, .v b => vEqb a b
  | .sl n s es, .sl n' s' es' => (n == n') && (Nat.beq s s' && esEqb es es')
  | _, _ => false
def esEqb : List (List T) → List (List T) → Bool
  | [], [] => true
  | x :: r, y :: s => elEqb x y && esEqb r s
  | _, _ => false
def elEqb : List T → List T → Bool
  | [], [] => true
  | x :: r, y :: s => tEqb x y && elEqb r s
  | _, _ => false
end
mutual
theorem tEqb_eq : ∀ {a b : T}, tEqb a b = true → a = b
  | .v a, .v b, h => by simp only [tEqb] at h; rw [vEqb_eq h]
  | .sl n s es, .sl n' s' es', h => by
    simp only [tEqb, Bool.and_eq_true, beq_iff_eq] at h
    rw [h.1, Nat.eq_of_beq_eq_true h.2.1, esEqb_eq h.2.2]
  | .v _, .sl _ _ _, h => by simp [tEqb] at h
  | .sl _ _ _, .v _, h => by simp [tEqb] at h
theorem esEqb_eq : ∀ {a b : List (List T)}, esEqb a b = true → a = b
  | [], [], _ => rfl
  | x :: r, y :: s, h => by simp only [esEqb, Bool.and_eq_true] at h; rw [elEqb_eq h.1, esEqb_eq h.2]
  | [], _ :: _, h => by simp [esEqb] at h
  | _ :: _, [], h => by simp [esEqb] at h
theorem elEqb_eq : ∀ {a b : List T}, elEqb a b = true → a = b
  | [], [], _ => rfl
  | x :: r, y :: s, h => by simp only [elEqb, Bool.and_eq_true] at h; rw [tEqb_eq h.1, elEqb_eq h.2]
  | [], _ :: _, h => by simp [elEqb] at h
  | _ :: _, [], h => by simp [elEqb] at h
end
def capEqb : List (K × Nat) → List (K × Nat) → Bool
  | [], [] => true
  | x :: r, y :: s => K.beq x.1 y.1 && (Nat.beq x.2 y.2 && capEqb r s)
  | _, _ => false
theorem capEqb_eq : ∀ {a b : List (K × Nat)}, capEqb a b = true → a = b
  | [], [], _ => rfl
  | x :: r, y :: s, h => by
    simp only [capEqb, Bool.and_eq_true] at h
    rw [capEqb_eq h.2.2, Prod.ext (K.beq_iff.1 h.1) (Nat.eq_of_beq_eq_true h.2.1)]
  | [], _ :: _, h => by simp [capEqb] at h
  | _ :: _, [], h => by simp [capEqb] at h
def itEqb : IT → IT → Bool
  | .ty a, .ty b => Nat.beq a b
  | .bd a, .bd b => Nat.beq a b
  | _, _ => false
theorem itEqb_eq : ∀ {a b : IT}, itEqb a b = true → a = b
  | .ty a, .ty b, h => by rw [Nat.eq_of_beq_eq_true h]
  | .bd a, .bd b, h => by rw [Nat.eq_of_beq_eq_true h]
  | .ty _, .bd _, h => by cases h
  | .bd _, .ty _, h => by cases h
def vsEqb : List Value → List Value → Bool
  | [], [] => true
  | x :: r, y :: s => vEqb x y && vsEqb r s
  | _, _ => false
theorem vsEqb_eq : ∀ {a b : List Value}, vsEqb a b = true → a = b
  | [], [], _ => rfl
  | x :: r, y :: s, h => by simp only [vsEqb, Bool.and_eq_true] at h; rw [vEqb_eq h.1, vsEqb_eq h.2]
  | [], _ :: _, h => by cases h
  | _ :: _, [], h => by cases h
def goEqb : GO → GO → Bool
  | .sl a, .sl b => Nat.beq a b
  | .mp a c, .mp b d => decide (a = b) && vsEqb c d
  | _, _ => false
theorem goEqb_eq : ∀ {a b : GO}, goEqb a b = true → a = b
  | .sl a, .sl b, h => by rw [Nat.eq_of_beq_eq_true h]
  | .mp a c, .mp b d, h => by simp only [goEqb, Bool.and_eq_true, decide_eq_true_eq] at h; rw [h.1, vsEqb_eq h.2]
  | .sl _, .mp _ _, h => by cases h
  | .mp _ _, .sl _, h => by cases h
def xEqb : LV → LV → Bool
  | .bad, .bad => true
  | .t a, .t b => tEqb a b
  | .osl k a b c, .osl k' a' b' c' => K.beq k k' && (Nat.beq a a' && (Nat.beq b b' && Nat.beq c c'))
  | .ptr k a, .ptr k' a' => K.beq k k' && Nat.beq a a'
  | .pel k a b c, .pel k' a' b' c' => K.beq k k' && (Nat.beq a a' && (Nat.beq b b' && Nat.beq c c'))
  | .ipt a, .ipt b => elEqb a b
  | .fn f c, .fn g d => Nat.beq f g && capEqb c d
  | .mpr k, .mpr k' => K.beq k k'
  | .ifc t x, .ifc t' y => itEqb t t' && xEqb x y
  | .agg a, .agg b => xsEqb a b
  | .tup a, .tup b => xsEqb a b
  | _, _ => false
where xsEqb : List LV → List LV → Bool
  | [], [] => true
  | x :: r, y :: s => xEqb x y && xsEqb r s
  | _, _ => false
mutual
theorem xEqb_eq : ∀ {a b : LV}, xEqb a b = true → a = b
  | .bad, b, h => by cases b <;> first | rfl | simp [xEqb] at h
  | .t a, b, h => by cases b <;> first | (simp only [xEqb] at h; rw [tEqb_eq h]) | simp [xEqb] at h
  | .osl k a b c, y, h => by
    cases y <;> first
      | (simp only [xEqb, Bool.and_eq_true, K.beq_iff] at h
         obtain ⟨h1, h2, h3, h4⟩ := h
         rw [h1, Nat.eq_of_beq_eq_true h2, Nat.eq_of_beq_eq_true h3, Nat.eq_of_beq_eq_true h4])
      | simp [xEqb] at h
  | .ptr k a, y, h => by
    cases y <;> first
      | (simp only [xEqb, Bool.and_eq_true, K.beq_iff] at h; rw [h.1, Nat.eq_of_beq_eq_true h.2])
      | simp [xEqb] at h
  | .pel k a b c, y, h => by
    cases y <;> first
      | (simp only [xEqb, Bool.and_eq_true, K.beq_iff] at h
         obtain ⟨h1, h2, h3, h4⟩ := h
         rw [h1, Nat.eq_of_beq_eq_true h2, Nat.eq_of_beq_eq_true h3, Nat.eq_of_beq_eq_true h4])
      | simp [xEqb] at h
  | .ipt a, y, h => by cases y <;> first | (simp only [xEqb] at h; rw [elEqb_eq h]) | simp [xEqb] at h
  | .fn f c, y, h => by
    cases y <;> first
      | (simp only [xEqb, Bool.and_eq_true] at h; rw [Nat.eq_of_beq_eq_true h.1, capEqb_eq h.2])
      | simp [xEqb] at h
  | .mpr k, y, h => by cases y <;> first | (simp only [xEqb, K.beq_iff] at h; rw [h]) | simp [xEqb] at h
  | .ifc t x, y, h => by
    cases y <;> first
      | (simp only [xEqb, Bool.and_eq_true] at h; rw [itEqb_eq h.1, xEqb_eq h.2])
      | simp [xEqb] at h
  | .agg a, y, h => by cases y <;> first | (simp only [xEqb] at h; rw [xsEqb_eq h]) | simp [xEqb] at h
  | .tup a, y, h => by cases y <;> first | (simp only [xEqb] at h; rw [xsEqb_eq h]) | simp [xEqb] at h
theorem xsEqb_eq : ∀ {a b : List LV}, xEqb.xsEqb a b = true → a = b
  | [], [], _ => rfl
  | x :: r, y :: s, h => by simp only [xEqb.xsEqb, Bool.and_eq_true] at h; rw [xEqb_eq h.1, xsEqb_eq h.2]
  | [], _ :: _, h => by simp [xEqb.xsEqb] at h
  | _ :: _, [], h => by simp [xEqb.xsEqb] at h
end
def rsEqb : List GR → List GR → Bool
  | [], [] => true
  | x :: r, y :: s => (match x, y with
    | .nil, .nil => true
    | .out, .out => true
    | .row a, .row b => esEqb a b
    | _, _ => false) && rsEqb r s
  | _, _ => false
theorem rsEqb_eq : ∀ {a b : List GR}, rsEqb a b = true → a = b
  | [], [], _ => rfl
  | x :: r, y :: s, h => by
    simp only [rsEqb, Bool.and_eq_true] at h
    rw [rsEqb_eq h.2]
    have h1 := h.1
    cases x <;> cases y <;> first | rfl | (simp only at h1; rw [esEqb_eq h1]) | simp at h1
  | [], _ :: _, h => by simp [rsEqb] at h
  | _ :: _, [], h => by simp [rsEqb] at h
def kvEqb : List (Value × T) → List (Value × T) → Bool
  | [], [] => true
  | x :: r, y :: s => vEqb x.1 y.1 && (tEqb x.2 y.2 && kvEqb r s)
  | _, _ => false
theorem kvEqb_eq : ∀ {a b : List (Value × T)}, kvEqb a b = true → a = b
  | [], [], _ => rfl
  | x :: r, y :: s, h => by
    simp only [kvEqb, Bool.and_eq_true] at h
    rw [kvEqb_eq h.2.2, Prod.ext (vEqb_eq h.1) (tEqb_eq h.2.1)]
  | [], _ :: _, h => by simp [kvEqb] at h
  | _ :: _, [], h => by simp [kvEqb] at h
def oEqb : Ob → Ob → Bool
  | .row a b c, .row a' b' c' => Nat.beq a a' && (Nat.beq b b' && esEqb c c')
  | .box a, .box b => xEqb.xsEqb a b
  | .grid a b c d, .grid a' b' c' d' => goEqb a a' && (Nat.beq b b' && (Nat.beq c c' && rsEqb d d'))
  | .mp a b, .mp a' b' => decide (a = a') && kvEqb b b'
  | _, _ => false
theorem oEqb_eq : ∀ {a b : Ob}, oEqb a b = true → a = b := by
  intro a b h
  unfold oEqb at h
  split at h
  · simp only [Bool.and_eq_true] at h; rw [Nat.eq_of_beq_eq_true h.1, Nat.eq_of_beq_eq_true h.2.1, esEqb_eq h.2.2]
  · rw [xsEqb_eq h]
  · simp only [Bool.and_eq_true] at h; rw [goEqb_eq h.1, Nat.eq_of_beq_eq_true h.2.1, Nat.eq_of_beq_eq_true h.2.2.1, rsEqb_eq h.2.2.2]
  · simp only [Bool.and_eq_true, decide_eq_true_eq] at h; rw [h.1, kvEqb_eq h.2]
  · cases h

/-- Two lists tell the same: what is new in any order, then the same. -/
def memA {α : Type} : Nat → List (Nat × α) → Bool
  | _, [] => false
  | n, p :: r => match Nat.beq p.1 n with
    | true => true
    | false => memA n r
theorem memA_look {α : Type} {n : Nat} : ∀ {l : List (Nat × α)}, memA n l = false → look l n = none
  | [], _ => rfl
  | p :: r, h => by
    simp only [memA] at h
    split at h
    · cases h
    · rename_i hb
      rw [look_cons, if_neg (fun he => by rw [he, Nat.beq_refl] at hb; cases hb)]
      exact memA_look h
def newIn {α : Type} (eq : α → α → Bool) (a b : List (Nat × α)) : List (Nat × α) → Bool
  | [] => true
  | p :: r => (match look a p.1, look b p.1 with
    | some x, some y => eq x y
    | _, _ => false) && newIn eq a b r
def keysIn {α : Type} (b : List (Nat × α)) : List (Nat × α) → Bool
  | [] => true
  | p :: r => memA p.1 b && keysIn b r
def zipEq {α : Type} (eq : α → α → Bool) : List (Nat × α) → List (Nat × α) → Bool
  | [], [] => true
  | p :: r, q :: s => Nat.beq p.1 q.1 && (eq p.2 q.2 && zipEq eq r s)
  | _, _ => false
theorem zipEq_eq {α : Type} {eq : α → α → Bool} (he : ∀ {a b}, eq a b = true → a = b) : ∀ {a b : List (Nat × α)}, zipEq eq a b = true → a = b
  | [], [], _ => rfl
  | p :: r, q :: s, h => by
    simp only [zipEq, Bool.and_eq_true] at h
    rw [zipEq_eq he h.2.2, Prod.ext (Nat.eq_of_beq_eq_true h.1) (he h.2.1)]
  | [], _ :: _, h => by simp [zipEq] at h
  | _ :: _, [], h => by simp [zipEq] at h
/-- All that the second tells is told by the first; n entries were there before. -/
def tellB {α : Type} (eq : α → α → Bool) (n : Nat) (a b : List (Nat × α)) : Bool :=
  newIn eq (a.take (a.length - n)) (b.take (b.length - n)) (b.take (b.length - n)) && (keysIn (b.take (b.length - n)) (a.take (a.length - n)) && zipEq eq (a.drop (a.length - n)) (b.drop (b.length - n)))
theorem look_append {α : Type} : ∀ (a b : List (Nat × α)) (n : Nat), look (a ++ b) n = match look a n with
    | some x => some x
    | none => look b n
  | [], b, n => rfl
  | p :: r, b, n => by
    rw [List.cons_append, look_cons, look_cons, look_append r b n]
    split <;> rfl
theorem newIn_look {α : Type} {eq : α → α → Bool} (he : ∀ {a b}, eq a b = true → a = b) {a b : List (Nat × α)} {n : Nat} {x : α} (hx : look b n = some x) : ∀ {l : List (Nat × α)}, newIn eq a b l = true → look l n ≠ none → look a n = some x
  | [], _, h => (h rfl).elim
  | p :: r, hb, h => by
    simp only [newIn, Bool.and_eq_true] at hb
    rw [look_cons] at h
    split at h
    · rename_i hp
      have h1 := hb.1
      rw [hp, hx] at h1
      split at h1
      · rename_i y z hy hz; cases hz; rw [hy, he h1]
      · cases h1
    · exact newIn_look he hx hb.2 h
theorem keysIn_none {α : Type} {b : List (Nat × α)} {n : Nat} (hn : look b n = none) : ∀ {a : List (Nat × α)}, keysIn b a = true → look a n = none
  | [], _ => rfl
  | p :: r, h => by
    simp only [keysIn, Bool.and_eq_true] at h
    rw [look_cons, if_neg]
    · exact keysIn_none hn h.2
    · rintro rfl
      have : ∀ {l : List (Nat × α)}, memA p.1 l = true → look l p.1 ≠ none := by
        intro l
        induction l with
        | nil => intro h; cases h
        | cons q s ih =>
          intro h
          simp only [memA] at h
          rw [look_cons]
          split
          · simp
          · rename_i hq
            split at h
            · rename_i hb; exact absurd (Nat.eq_of_beq_eq_true hb) hq
            · exact ih h
      exact this h.1 hn
theorem tellB_look {α : Type} {eq : α → α → Bool} (he : ∀ {a b}, eq a b = true → a = b) {n m : Nat} {a b : List (Nat × α)} {x : α} (h : tellB eq n a b = true) (hx : look b m = some x) : look a m = some x := by
  simp only [tellB, Bool.and_eq_true] at h
  rw [← List.take_append_drop (b.length - n) b, look_append] at hx
  rw [← List.take_append_drop (a.length - n) a, look_append]
  cases hb : look (b.take (b.length - n)) m with
  | some y =>
    rw [hb] at hx
    cases hx
    rw [newIn_look he hb h.1 (by rw [hb]; simp)]
  | none =>
    rw [hb] at hx
    rw [keysIn_none hb h.2.1, zipEq_eq he h.2.2]
    exact hx

section
variable {C : Ctx} {P : Program} {E : Ent} {N : Nat} {β β' : K → Nat} {RO RO' : Nat → Prop} {env env' : Env} {st st' : St} {a : Act} {w w' : World} {k k' : Nat} {x : LV} {X : ExtE} {H : CallE}

theorem plus2_ok (hC : C.OK P) {o : Oper} (h : plus2 C o env st k = some (x, env', st', k')) {Q : Act → World → Prop} (hs : SR E N β RO env st a w)
    (hQ : ∀ v β' RO' w', SR E N β' RO' env' st' a w' → VL β' RO' w' x v → Q (a.put o.dst v) w') : o.wp P a w Q fun _ _ _ => False := by
  unfold plus2 at h
  split at h
  · rename_i x1 env1 st1 h1
    cases h
    exact opE_ok hC h1 hs hQ
  · cases h
theorem op0E_ok (hC : C.OK P) (hX : ExtOK P X) (hH : CallOK P H) {o : Oper} (h : op0E C X H o env st k = some (x, env', st', k')) {Q : Act → World → Prop} (hs : SR E N β RO env st a w)
    (hQ : ∀ v β' RO' w', SR E N β' RO' env' st' a w' → VL β' RO' w' x v → Q (a.put o.dst v) w') : o.wp P a w Q fun _ _ _ => False := by
  unfold op0E at h
  have hfun : opdR env = opd env := funext (opdR_eq env)
  simp only [hfun, lookR_eq] at h
  split at h
  · rename_i c hop
    split at h
    · rename_i fo hcal
      split at h
      · rename_i f cap hf
        split at h
        · rename_i kx hkx
          split at h
          · rename_i vs hvs
            split at h
            · rename_i y hy
              cases h
              have hW : opWs C P 0 o env st (fun x1 e t => x1 = x ∧ e = env ∧ t = st) := by
                unfold opWs; rw [hop]; simp only
                unfold callOpW; rw [hcal]; simp only [hf, hkx, hvs]
                exact ⟨x, hX f vs x hy, strW_intro (K' := fun y => y = x ∧ _) ⟨rfl, by simp⟩⟩
              exact opWs_sound hC hs hW fun v y e t β' RO' w' ⟨h1, h2, h3⟩ hs' hv => by subst h1; subst h2; subst h3; exact hQ v β' RO' w' hs' hv
            · cases h
          · cases h
        · obtain ⟨h1, h2⟩ := hH _ _ _ _ _ _ _ _ _ h E N β RO a w _ hs (vals_cap hs c.args.toList _)
          refine call_any hop hcal hs hf h1 (h2.mono ?_)
          rintro e w' ⟨v, β', RO', rfl, h3, h4⟩
          exact ⟨v, rfl, hQ v β' RO' w' h3 h4⟩
      · rename_i f x hf
        obtain ⟨u, hu, hx⟩ := bnd_inv hs hf
        obtain ⟨h1, h2⟩ := hH _ _ _ _ _ _ _ _ _ h E N β RO a w _ hs (vals_bnd hs hx c.args.toList)
        refine call_bnd hop hcal hu h1 (h2.mono ?_)
        rintro e w' ⟨v, β', RO', rfl, h3, h4⟩
        exact ⟨v, rfl, hQ v β' RO' w' h3 h4⟩
      · cases h
    · exact plus2_ok hC h hs hQ
  · exact plus2_ok hC h hs hQ

noncomputable def op1E (C : Ctx) (X : ExtE) (H : CallE) (o : Oper) (env : Env) (st : St) (k : Nat) : Option (LV × (Env × (St × Nat))) := match (dkOp o.op).isOth with
  | true => op0E C X H o env st k
  | false => match exDF C o.op (dkOp o.op) env st with
    | some x => some (x, env, st, k)
    | none => none
theorem op1E_ok (hC : C.OK P) (hX : ExtOK P X) (hH : CallOK P H) {o : Oper} (h : op1E C X H o env st k = some (x, env', st', k')) {Q : Act → World → Prop} (hs : SR E N β RO env st a w)
    (hQ : ∀ v β' RO' w', SR E N β' RO' env' st' a w' → VL β' RO' w' x v → Q (a.put o.dst v) w') : o.wp P a w Q fun _ _ _ => False := by
  unfold op1E at h
  split at h
  · exact op0E_ok hC hX hH h hs hQ
  · split at h
    · rename_i y hy
      cases h
      exact pevOK hC (exDF_ok rfl hy) E N β RO a w Q hs fun v hv => hQ v β RO w hs hv
    · cases h

/-! ### Regions -/
noncomputable def regE (C : Ctx) (X : ExtE) (H : CallE) (ops : List Oper) : List Oper → Env → St → Nat → Option (Env × (St × Nat))
  | [], env, st, k => some (env, st, k)
  | o :: r, env, st, k => match dkDst o with
    | some d => match exDF C o.op (dkOp o.op) env st with
      | some x => regE C X H ops r ((d, x) :: env) st k
      | none => none
    | none => match gdR ops env o with
      | some b => match b with
        | true => match op1E C X H o env st k with
          | some (x, env, st, k) => regE C X H ops r (putE env o.dst x) st k
          | none => none
        | false => regE C X H ops r (putE env o.dst (.tup [])) st k
      | none => none

theorem regE_in (hC : C.OK P) (hX : ExtOK P X) (hH : CallOK P H) {r : Option Nat} {n : Nat} {ops : Array Oper} {Q' : Exit → Act → World → Prop} (hnd : noDef ops.toList = true) (hd : dstOK N ops.toList = true) (hQ : ∀ β RO a w, SR E N β RO env' st' a w → Q' .normal a w) :
    ∀ (l : List Oper) (m : Nat) (k : Nat) (β : K → Nat) (RO : Nat → Prop) (env : Env) (st : St) (a : Act) (w : World), ops.toList.drop m = l → SR E N β RO env st a w → regE C X H ops.toList l env st k = some (env', st', k') → wpOpsIn (wideR r) n P ops Q' (List.range' m l.length) a w
  | [], m, k, β, RO, env, st, a, w, _, h, hW => by cases hW; exact hQ β RO a w h
  | o :: l, m, k, β, RO, env, st, a, w, hk, h, hW => by
    have hok : ops[m]? = some o := by
      have : (ops.toList.drop m)[0]? = some o := by rw [hk]; rfl
      rw [List.getElem?_drop, Nat.add_zero, Array.getElem?_toList] at this
      exact this
    have hdr : ops.toList.drop (m + 1) = l := by
      have := congrArg (List.drop 1) hk
      rw [List.drop_drop] at this
      simpa [Nat.add_comm] using this
    have hmem : o ∈ ops.toList := by
      have : o ∈ ops.toList.drop m := by rw [hk]; exact List.mem_cons_self ..
      exact List.mem_of_mem_drop this
    have hdo : ∀ d, o.dst = some d → d < N := dstOK_mem hd o hmem
    simp only [List.length_cons, List.range'_succ, wpOpsIn, hok]
    simp only [regE, gdR_eq] at hW
    split at hW
    · rename_i d hd1
      obtain ⟨hgn, hdst⟩ := dkDst_ok hd1
      split at hW
      · rename_i x1 h1
        have hg : gdE ops.toList env o = some true := by unfold gdE; rw [hgn]
        rw [gdE_wanted hd h hg, if_pos rfl]
        refine wp_in (noDef_mem hnd o hmem) (fun _ _ h => h) (fun _ _ _ _ h => h) (pevOK hC (exDF_ok rfl h1) E N β RO a w _ h fun v hv => ?_)
        have := h.put hv hdo
        rw [hdst] at this ⊢
        exact regE_in hC hX hH hnd hd hQ l (m + 1) k β RO _ st _ w hdr this hW
      · cases hW
    split at hW
    · rename_i bb hg
      split at hW
      · rw [gdE_wanted hd h hg, if_pos rfl]
        split at hW
        · rename_i x1 env1 st1 k1 h1
          exact wp_in (noDef_mem hnd o hmem) (fun _ _ h => h) (fun _ _ _ _ h => h) (op1E_ok hC hX hH h1 h fun v β' RO' w' hs hv =>
            regE_in hC hX hH hnd hd hQ l (m + 1) k1 β' RO' _ st1 _ w' hdr (hs.put hv hdo) hW)
        · cases hW
      · rw [gdE_wanted hd h hg, if_neg (by simp)]
        exact ⟨fun _ _ => trivial, regE_in hC hX hH hnd hd hQ l (m + 1) k β RO _ st _ w hdr (h.put .skip hdo) hW⟩
    · cases hW

/-! ### Drawn regions -/
noncomputable def againE (C : Ctx) (ops : List Oper) : List Nat → Env → St → Bool
  | [], _, _ => true
  | j :: r, env, st => match nth ops j with
    | some o => match o.guard with
      | none => match o.dst with
        | some d => match lookR env d, exDF C o.op (dkOp o.op) env st with
          | some y, some z => xEqb y z && againE C ops r env st
          | _, _ => false
        | none => false
      | some _ => false
    | none => false
noncomputable def treeE (C : Ctx) (X : ExtE) (H : CallE) (ops : List Oper) : Tr → Env → St → Nat → Option (Env × (St × Nat))
  | .done, env, st, k => some (env, st, k)
  | .pure i t, env, st, k => match nth ops i with
    | some o => match dkDst o with
      | some d => match exDF C o.op (dkOp o.op) env st with
        | some x => treeE C X H ops t ((d, x) :: env) st k
        | none => none
      | none => match gdR ops env o with
        | some b => match b with
          | true => match pevR C env st o.op with
            | some x => treeE C X H ops t (putE env o.dst x) st k
            | none => none
          | false => treeE C X H ops t (putE env o.dst (.tup [])) st k
        | none => none
    | none => none
  | .last i t L, env, st, k => match nth ops i with
    | some o => match gdR ops env o with
      | some b => match b with
        | true => match op1E C X H o env st (k + 1000000 * i) with
          | some (x, env, st, _) => okIf (againE C ops L (putE env o.dst x) st) (treeE C X H ops t (putE env o.dst x) st k)
          | none => none
        | false => okIf (againE C ops L (putE env o.dst (.tup [])) st) (treeE C X H ops t (putE env o.dst (.tup [])) st k)
      | none => none
    | none => none
  | .fork i t L rest, env, st, k => match (match nth ops i with
    | some o => match gdR ops env o with
      | some b => match b with
        | true => match op1E C X H o env st (k + 1000000 * i) with
          | some (x, env, st, _) => okIf (againE C ops L (putE env o.dst x) st) (treeE C X H ops t (putE env o.dst x) st k)
          | none => none
        | false => okIf (againE C ops L (putE env o.dst (.tup [])) st) (treeE C X H ops t (putE env o.dst (.tup [])) st k)
      | none => none
    | none => none), treeE C X H ops rest env st k with
    | some (env1, st1, _), some (env2, st2, k2) => match st1.out, st2.out with
      | [], [] => okIf (tellB xEqb env.length env1 env2 && tellB oEqb st.cur.length st1.cur st2.cur) (some (env2, st2, k2))
      | _, _ => none
    | _, _ => none
  | .eff _ _, _, _, _ => none

theorem againE_spec (hC : C.OK P) {ops : Array Oper} : ∀ {L : List Nat} {env : Env} {st : St}, againE C ops.toList L env st = true → ∀ j ∈ L, Again P E N ops j (look env) st
  | [], _, _, _, j, hj => by cases hj
  | i :: r, env, st, h, j, hj => by
    simp only [againE, lookR_eq] at h
    split at h
    rotate_left
    · cases h
    rename_i o hno
    split at h
    rotate_left
    · cases h
    rename_i hg
    split at h
    rotate_left
    · cases h
    rename_i d hd
    split at h
    rotate_left
    · cases h
    rename_i y z hy hz
    simp only [Bool.and_eq_true] at h
    have := xEqb_eq h.1
    subst this
    rcases List.mem_cons.1 hj with rfl | hj
    · rw [nth_eq, Array.getElem?_toList] at hno
      exact ⟨o, y, hno, fun d' hd' => by rw [hd] at hd'; cases hd'; exact hy, .inl ⟨by unfold gdF; rw [hg], pureS_of hC (exDF_ok rfl hz)⟩⟩
    · exact againE_spec hC h.2 j hj
theorem tree_synE {ops : Array Oper} {Q : Env → St → Prop} {i : Nat} {o : Oper} {t : Tr} {L pf : List Nat} {listed : Array Bool} {env1 : Env} {st1 : St} {k1 : Nat} (hC : C.OK P) (hX : ExtOK P X) (hH : CallOK P H) (hd : dstOK N ops.toList = true) (hno : ops[i]? = some o) (hr : i ∈ Region.ready .any ops listed) (h2 : (pf.all fun j => belB ops 3 o j || L.contains j) = true)
    (hsub : ∀ env st k, treeE C X H ops.toList t env st k = some (env1, st1, k') → treeF P E N ops (fun ef st => ∃ env, ef = look env ∧ Q env st) t (inP_ pf) (look env) (listed.setIfInBounds i true) (look env) st)
    (h : (match gdE ops.toList env o with
      | some b => match b with
        | true => match op1E C X H o env st k1 with
          | some (x, env, st, _) => okIf (againE C ops.toList L (putE env o.dst x) st) (treeE C X H ops.toList t (putE env o.dst x) st k)
          | none => none
        | false => okIf (againE C ops.toList L (putE env o.dst (.tup [])) st) (treeE C X H ops.toList t (putE env o.dst (.tup [])) st k)
      | none => none) = some (env1, st1, k')) :
    ∃ o, ops[i]? = some o ∧ i ∈ Region.ready .any ops listed ∧ SynG P E N ops o (look env) st fun ef' st' => (∀ j, inP_ pf j = true → Befo ops o j ∨ Again P E N ops j ef' st') ∧
      treeF P E N ops (fun ef st => ∃ env, ef = look env ∧ Q env st) t (inP_ pf) ef' (listed.setIfInBounds i true) ef' st' := by
  have hdo : ∀ d, o.dst = some d → d < N := dstOK_mem hd o (by
    have := Array.mem_of_getElem? hno
    simpa using this)
  split at h
  · rename_i b hg
    split at h
    · split at h
      · rename_i x2 env2 st2 k2 h1
        obtain ⟨ha, h⟩ := okIf_some h
        refine ⟨o, hno, hr, .inl ⟨gdE_F hg, fun β RO a w hs => ?_⟩⟩
        have hsr : SR E N β RO env st a w := hs.list fun n x hx => hx
        refine op1E_ok hC hX hH h1 hsr fun v β' RO' w' hs2 hv => ?_
        exact ⟨look (putE env2 o.dst x2), st2, β', RO', ⟨pf_spec h2 (againE_spec hC ha), hsub _ _ _ h⟩, (hs2.put hv hdo).toF⟩
      · cases h
    · obtain ⟨ha, h⟩ := okIf_some h
      refine ⟨o, hno, hr, .inr ⟨gdE_F hg, look (putE env o.dst (.tup [])), fun n x hx => by rw [← look_putE]; exact hx, pf_spec h2 (againE_spec hC ha), hsub _ _ _ h⟩⟩
  · cases h
/-- What tells more. -/
def More (env1 : Env) (st1 : St) (env : Env) (st : St) : Prop := (∀ n x, look env1 n = some x → look env n = some x) ∧ ∀ k o, st1.get k = some o → st.get k = some o
theorem treeE_treeF (hC : C.OK P) (hX : ExtOK P X) (hH : CallOK P H) {ops : Array Oper} {Q : Env → St → Prop} (hm : ∀ e s e' s', Q e s → More e s e' s' → Q e' s') (hd : dstOK N ops.toList = true) : ∀ (t : Tr) (pf : List Nat) (env0 pre env : Env) (listed : Array Bool) (st : St) (k k' : Nat) (env1 : Env) (st1 : St), env = pre ++ env0 → treeB ops t pf listed = true → treeE C X H ops.toList t env st k = some (env1, st1, k') → Q env1 st1 →
    treeF P E N ops (fun ef st => ∃ env, ef = look env ∧ Q env st) t (inP_ pf) (look env0) listed (look env) st
  | .done, pf, env0, pre, env, listed, st, k, k', env1, st1, hp, ho, h, hq => by cases h; exact ⟨_, rfl, hq⟩
  | .pure i t, pf, env0, pre, env, listed, st, k, k', env1, st1, hp, ho, h, hq => by
    simp only [treeE, gdR_eq] at h
    split at h
    rotate_left
    · cases h
    rename_i o hno
    rw [nth_eq, Array.getElem?_toList] at hno
    simp only [treeB, hno, Bool.and_eq_true] at ho
    have hF := firstB_spec ho.1
    split at h
    · rename_i d hd1
      obtain ⟨hgn, hdst⟩ := dkDst_ok hd1
      split at h
      · rename_i x hx
        refine ⟨o, x, hno, hF, .inl ⟨gdE_F (by unfold gdE; rw [hgn]), pureS_of hC (exDF_ok rfl hx)⟩, ?_⟩
        obtain ⟨pre', hp'⟩ := putE_app hp o.dst x
        rw [← look_putE, ← inP_cons]
        rw [hdst] at hp' ⊢
        exact treeE_treeF hC hX hH hm hd t (i :: pf) env0 pre' _ _ st k _ _ _ hp' ho.2 h hq
      · cases h
    split at h
    · rename_i b hg
      split at h
      · split at h
        · rename_i x hx
          refine ⟨o, x, hno, hF, .inl ⟨gdE_F hg, pureS_of hC (pevR_ok hx)⟩, ?_⟩
          obtain ⟨pre', hp'⟩ := putE_app hp o.dst x
          rw [← look_putE, ← inP_cons]
          exact treeE_treeF hC hX hH hm hd t (i :: pf) env0 pre' _ _ st k _ _ _ hp' ho.2 h hq
        · cases h
      · refine ⟨o, .tup [], hno, hF, .inr ⟨gdE_F hg, rfl⟩, ?_⟩
        obtain ⟨pre', hp'⟩ := putE_app hp o.dst (.tup [])
        rw [← look_putE, ← inP_cons]
        exact treeE_treeF hC hX hH hm hd t (i :: pf) env0 pre' _ _ st k _ _ _ hp' ho.2 h hq
    · cases h
  | .eff i t, pf, env0, pre, env, listed, st, k, k', env1, st1, hp, ho, h, hq => by cases h
  | .last i t L, pf, env0, pre, env, listed, st, k, k', env1, st1, hp, ho, h, hq => by
    simp only [treeE, gdR_eq] at h
    split at h
    rotate_left
    · cases h
    rename_i o hno
    rw [nth_eq, Array.getElem?_toList] at hno
    simp only [treeB, hno, Bool.and_eq_true] at ho
    obtain ⟨h1, h2, h3⟩ := ho
    exact tree_synE hC hX hH hd hno (by simpa using h1) h2 (fun env st k hk => treeE_treeF hC hX hH hm hd t pf env [] env _ st k _ _ _ rfl h3 hk hq) h
  | .fork i t L rest, pf, env0, pre, env, listed, st, k, k', env1, st1, hp, ho, h, hq => by
    simp only [treeE, gdR_eq] at h
    split at h
    rotate_left
    · cases h
    rename_i env2 st2 k2 env3 st3 k3 h1 h3
    split at h
    rotate_left
    · cases h
    rename_i ho1 ho2
    obtain ⟨ht, h⟩ := okIf_some h
    cases h
    simp only [Bool.and_eq_true] at ht
    have hmore : More env1 st1 env2 st2 := ⟨fun n x hx => tellB_look xEqb_eq ht.1 hx, fun k o hk => by
      have e1 : st1 = ⟨st2.out, st1.cur⟩ := by rw [ho1, ← ho2]
      rw [e1] at hk
      exact get_less (fun n x hx => tellB_look oEqb_eq ht.2 hx) k o hk⟩
    split at h1
    rotate_left
    · cases h1
    rename_i o hno
    rw [nth_eq, Array.getElem?_toList] at hno
    simp only [treeB, hno, Bool.and_eq_true] at ho
    obtain ⟨g1, g2, g3, g4⟩ := ho
    exact ⟨tree_synE hC hX hH hd hno (by simpa using g1) g2 (fun env st k hk => treeE_treeF hC hX hH hm hd t pf env [] env _ st k _ _ _ rfl g3 hk (hm _ _ _ _ hq hmore)) h1,
      treeE_treeF hC hX hH hm hd rest pf env0 pre env listed st k _ _ _ hp g4 h3 hq⟩
theorem drawnE (hC : C.OK P) (hX : ExtOK P X) (hH : CallOK P H) {ops : Array Oper} {ord : List (Nat × Kind)} {K' : Act → World → Prop} {env1 : Env} {st1 : St} (hd : dstOK N ops.toList = true) (ho : ordOK ops ord = true) (hQ : ∀ β RO a w, SR E N β RO env1 st1 a w → K' a w)
    (h : SR E N β RO env st a w) (hW : treeE C X H ops.toList (trOf ord) env st k = some (env1, st1, k')) : wpAny P .any ops (onlyN K') ops.size (Array.replicate ops.size false) a { w with drawn := w.drawn + 1 } := by
  have hs1 := h.drew (w.drawn + 1)
  simp only [ordOK, Bool.and_eq_true] at ho
  obtain ⟨hns, hdis, hcov, htr⟩ := ho
  have hdist : Distinct ops := fun i j o p d hi hj ho hp => distB_spec hdis i j o p d (by simpa using hi) (by simpa using hj) ho hp
  have hN : ∀ (i : Nat) (o : Oper) (d : Nat), ops[i]? = some o → o.dst = some d → d < N := fun i o d hi hd' => dstOK_mem hd o (by have := Array.mem_of_getElem? hi; simpa using this) d hd'
  have hF : treeF P E N ops (fun ef st => ∃ env, ef = look env ∧ More env1 st1 env st) (trOf ord) (inP_ []) (look env) (Array.replicate ops.size false) (look env) st :=
    treeE_treeF (Q := More env1 st1) hC hX hH (fun e s e' s' h1 h2 => ⟨fun n x hx => h2.1 n x (h1.1 n x hx), fun k o hk => h2.2 k o (h1.2 k o hk)⟩) hd _ [] env [] env _ st k _ _ _ rfl htr hW ⟨fun _ _ h => h, fun _ _ h => h⟩
  have hA := (treeF_any (Region.noSelect_spec hns) hN hdist (trOf ord) ops.size (inP_ []) (look env) _ _ _ st hcov down0 (fun _ _ _ _ _ _ => .inl rfl) (fun k hk => by simp [inP_] at hk) hF).2 rfl
  refine anyF_sound hN ?_ (fun e a w h => h.elim) ops.size _ _ _ _ _ β RO a _ hs1.toF hA
  rintro ef st β RO a w hs ⟨env2, rfl, hmore⟩
  exact hQ β RO a w ((hs.list fun n x hx => hx).less hmore.2 hmore.1)

/-! ### Code -/
abbrev EvR := Option (Exit × (Env × (St × Nat)))
abbrev EvT := Code → Kp → Od → Env → St → Nat → EvR
def EvOK (P : Program) (rec : EvT) : Prop := ∀ (c : Code) (kp : Kp) (od : Od) (env : Env) (st : St) (k : Nat) (e : Exit) (env' : Env) (st' : St) (k' : Nat), rec c kp od env st k = some (e, env', st', k') →
  ∀ (E : Ent) (N : Nat) (β : K → Nat) (RO : Nat → Prop) (a : Act) (w : World), codeYOK N od c = true → SR E N β RO env st a w → c.wpIn (wideR none) 0 P (Post E N fun e1 env1 st1 => e1 = e ∧ env1 = env' ∧ st1 = st') a w

noncomputable def keepF {α : Type} : List Nat → List (Nat × α) → List (Nat × α)
  | [], _ => []
  | k :: r, env => match lookR env k with
    | some x => (k, x) :: keepF r env
    | none => keepF r env
theorem look_keepF {α : Type} : ∀ {ks : List Nat} {env : List (Nat × α)} {n : Nat} {x : α}, look (keepF ks env) n = some x → look env n = some x
  | [], env, n, x, h => by simp [keepF, look] at h
  | k :: r, env, n, x, h => by
    simp only [keepF, lookR_eq] at h
    split at h
    · rename_i y hy
      rw [look_cons] at h
      split at h
      · rename_i hk; subst hk; cases h; exact hy
      · exact look_keepF h
    · exact look_keepF h
noncomputable def entE (kp : Kp) (c : Code) (env : Env) : Env := match fstR c with
  | some id => match lookR kp id with
    | some p => keepF p.1 env ++ ghE env
    | none => env
  | none => env
theorem SR.entE (h : SR E N β RO env st a w) (kp : Kp) (c : Code) : SR E N β RO (entE kp c env) st a w := by
  unfold Go.Fw.entE
  simp only [lookR_eq]
  split
  · split
    · refine h.less (fun _ _ h => h) fun n x hx => ?_
      rcases look_app hx with hx | ⟨_, hx⟩
      · exact look_keepF hx
      · exact (look_ghE hx).1
    · exact h
  · exact h

/-! ### What is kept of the objects -/
def namK : K → Nat
  | .cur s => s
  | .fr _ _ => 0
  | .sub k _ => namK k
def namC : List (K × Nat) → List Nat
  | [] => []
  | p :: r => namK p.1 :: namC r
def namV : LV → List Nat
  | .osl k _ _ _ => [namK k]
  | .ptr k _ => [namK k]
  | .pel k _ _ _ => [namK k]
  | .mpr k => [namK k]
  | .fn _ cap => namC cap
  | .ifc _ x => namV x
  | .agg cs => namL cs
  | .tup cs => namL cs
  | _ => []
where namL : List LV → List Nat
  | [] => []
  | x :: r => namV x ++ namL r
def namO : Ob → List Nat
  | .box cs => namV.namL cs
  | .mit m _ => [namK m]
  | _ => []
noncomputable def namF (cur : Fr) : List Nat → List Nat
  | [] => []
  | n :: r => match lookR cur n with
    | some o => namO o ++ namF cur r
    | none => namF cur r
/-- Names that are not yet listed. -/
def newN : List Nat → List Nat → List Nat → List Nat
  | [], _, new => new
  | n :: r, acc, new => match elB n acc || elB n new with
    | true => newN r acc new
    | false => newN r acc (n :: new)
noncomputable def closN (cur : Fr) : Nat → List Nat → List Nat → List Nat
  | 0, _, acc => acc
  | m + 1, todo, acc => match newN (namF cur todo) acc [] with
    | [] => acc
    | n :: l => closN cur m (n :: l) (n :: l ++ acc)
def namE : Env → List Nat
  | [] => []
  | p :: r => namV p.2 ++ namE r
noncomputable def gcF (cur : Fr) (l : List Nat) : Fr := match newN l [] [] with
  | [] => []
  | n :: l => keepF (closN cur 20 (n :: l) (n :: l)) cur
theorem look_gcF {cur : Fr} {l : List Nat} {n : Nat} {o : Ob} (h : look (gcF cur l) n = some o) : look cur n = some o := by
  unfold gcF at h
  split at h
  · simp [look] at h
  · exact look_keepF h

def longB {α : Type} : Nat → List α → Bool
  | 0, _ => true
  | _ + 1, [] => false
  | n + 1, _ :: r => longB n r
noncomputable def gcS (env : Env) (st : St) : St := match longB 30 st.cur with
  | true => ⟨st.out, gcF st.cur (namE env)⟩
  | false => st
theorem SR.gcS (h : SR E N β RO env st a w) (e : Env) : SR E N β RO env (gcS e st) a w := by
  unfold Go.Fw.gcS
  split
  · exact h.less (fun k o hk => get_less (fun n x hx => look_gcF hx) k o hk) fun _ _ h => h
  · exact h

noncomputable def loopE (rec : EvT) (b : Code) (kp : Kp) (od : Od) : Nat → Env → St → Nat → EvR
  | 0, _, _, _ => none
  | m + 1, env, st, k => match rec b kp od (entE kp b env) (gcS (entE kp b env) st) k with
    | some (e, env, st, k) => match e with
      | .normal => loopE rec b kp od m env st k
      | e => some (e, env, st, k)
    | none => none
theorem loopE_in {rec : EvT} (hr : EvOK P rec) {b : Code} {kp : Kp} {od : Od} {e' : Exit} (hb : codeYOK N od b = true) : ∀ (m : Nat) (β : K → Nat) (RO : Nat → Prop) (env : Env) (st : St) (k : Nat) (a : Act) (w : World), SR E N β RO env st a w → loopE rec b kp od m env st k = some (e', env', st', k') →
    Code.roundsIn (wideR none) 0 P b (Post E N fun e1 env1 st1 => e1 = e' ∧ env1 = env' ∧ st1 = st') m a w
  | 0, _, _, _, _, _, _, _, _, h => by cases h
  | m + 1, β, RO, env, st, k, a, w, hs, h => by
    simp only [loopE] at h
    split at h
    · rename_i e1 env1 st1 k1 h1
      rw [roundsIn_succ]
      refine wpIn_mono (hr _ _ _ _ _ _ _ _ _ _ h1 E N β RO a w hb ((hs.entE kp b).gcS _)) ?_
      rintro e a w ⟨env2, st2, β2, RO2, ⟨rfl, rfl, rfl⟩, hs2⟩
      split at h
      · exact loopE_in hr hb m β2 RO2 _ _ _ _ _ hs2 h
      · rename_i hne
        cases h
        cases e' <;> first | exact ⟨_, _, β2, RO2, ⟨rfl, rfl, rfl⟩, hs2⟩ | exact (hne rfl).elim
    · cases h

/-- A number laid bare. -/
noncomputable def natF {α : Type} (k : Nat) (f : Nat → α) : α := Nat.rec (f 0) (fun n _ => f (Nat.succ n)) k
theorem natF_eq {α : Type} (k : Nat) (f : Nat → α) : natF k f = f k := by cases k <;> rfl
noncomputable def evS (C : Ctx) (X : ExtE) (H : EvT → CallE) (m : Nat) (rec : EvT) : EvT := fun c kp od env st k => match c with
  | .skip => some (.normal, env, st, k)
  | .label _ => some (.normal, env, st, k)
  | .region id ops draw => match draw with
    | false => match natF k (regE C X (H rec) ops.toList ops.toList env st) with
      | some (env, st, k) => some (.normal, env, st, k)
      | none => none
    | true => match lookR od id with
      | some ord => match natF k (treeE C X (H rec) ops.toList (trOf ord) env st) with
        | some (env, st, k) => some (.normal, env, st, k + 1000000000)
        | none => none
      | none => none
  | .seq x y => match rec x kp od env st k with
    | some (e, env, st, k) => match e with
      | .normal => rec y kp od (entE kp y env) st k
      | e => some (e, env, st, k)
    | none => none
  | .cond c x y => match opdR env c with
    | .t (.v (.bool b)) => match b with
      | true => rec x kp od env st k
      | false => rec y kp od env st k
    | _ => none
  | .block id b => match rec b kp od env st k with
    | some (e, env, st, k) => match e with
      | .exit i => match Nat.beq i id with
        | true => some (.normal, env, st, k)
        | false => some (.exit i, env, st, k)
      | e => some (e, env, st, k)
    | none => none
  | .loop b => loopE rec b kp od m env st k
  | .scope b => match rec b kp od env st k with
    | some (e, env, st, k) => match e with
      | .goto _ => none
      | e => some (e, env, st, k)
    | none => none
  | .exit id => some (.exit id, env, st, k)
  | .ret => some (.ret, env, st, k)
  | _ => none

theorem evS_ok (hC : C.OK P) (hX : ExtOK P X) {HH : EvT → CallE} {m : Nat} {rec : EvT} (hH : CallOK P (HH rec)) (hr : EvOK P rec) : EvOK P (evS C X HH m rec) := by
  intro c kp od env st k e env' st' k' h E N β RO a w hk hs
  have fin : ∀ {e : Exit} {env : Env} {st : St} {β : K → Nat} {RO : Nat → Prop} {a : Act} {w : World}, SR E N β RO env st a w → Post E N (fun e1 env1 st1 => e1 = e ∧ env1 = env ∧ st1 = st) e a w := fun hs => ⟨_, _, _, _, ⟨rfl, rfl, rfl⟩, hs⟩
  cases c with
  | skip => cases h; exact wpIn_skip (fin hs)
  | label l => cases h; exact wpIn_label (fin hs)
  | exit id => cases h; exact wpIn_exit (fin hs)
  | ret => cases h; exact wpIn_ret (fin hs)
  | region id ops draw =>
    simp only [codeYOK, Bool.and_eq_true] at hk
    cases draw with
    | false =>
      simp only [evS, natF_eq] at h
      split at h
      · rename_i env1 st1 k1 h1
        cases h
        refine wpIn_region ?_
        rw [List.range_eq_range', show ops.size = ops.toList.length by simp]
        exact regE_in hC hX hH hk.1 hk.2.1 (fun β RO a w hs => fin hs) ops.toList 0 k β RO env st a w rfl hs h1
      · cases h
    | true =>
      obtain ⟨h0, h1, h2⟩ := hk
      simp only [evS, lookR_eq, natF_eq] at h
      simp only at h2
      split at h
      · rename_i ord ho
        rw [ho] at h2
        split at h
        · rename_i env1 st1 k1 h3
          cases h
          have hA := drawnE (K' := fun a w => Post E N (fun e1 env2 st2 => e1 = .normal ∧ env2 = env' ∧ st2 = st') .normal a w) hC hX hH h1 h2 (fun β RO a w hs => fin hs) hs h3
          exact wpIn_mono (wpIn_region_any hC.mixed (wpAny_in h0 _ _ _ _ hA)) fun e a w hq => by
            cases e <;> first | exact hq | exact hq.elim
        · cases h
      · cases h
  | seq x y =>
    simp only [codeYOK, Bool.and_eq_true] at hk
    simp only [evS] at h
    split at h
    · rename_i e1 env1 st1 k1 h1
      refine wpIn_seq (wpIn_mono (hr _ _ _ _ _ _ _ _ _ _ h1 E N β RO a w hk.1 hs) ?_)
      rintro e2 a w ⟨env2, st2, β2, RO2, ⟨rfl, rfl, rfl⟩, hs2⟩
      split at h
      · exact hr _ _ _ _ _ _ _ _ _ _ h E N β2 RO2 a w hk.2 (hs2.entE kp y)
      · rename_i hne
        cases h
        cases e <;> first | exact fin hs2 | exact (hne rfl).elim
    · cases h
  | cond c x y =>
    simp only [codeYOK, Bool.and_eq_true] at hk
    have hc := hs.opd c
    simp only [evS, opdR_eq] at h
    split at h
    · rename_i b hb
      rw [hb] at hc
      cases b with
      | true => exact wpIn_cond_true hc.v_inv (hr _ _ _ _ _ _ _ _ _ _ h E N β RO a w hk.1 hs)
      | false => exact wpIn_cond_false hc.v_inv (hr _ _ _ _ _ _ _ _ _ _ h E N β RO a w hk.2 hs)
    · cases h
  | block id b =>
    simp only [evS] at h
    split at h
    · rename_i e1 env1 st1 k1 h1
      refine wpIn_block (wpIn_mono (hr _ _ _ _ _ _ _ _ _ _ h1 E N β RO a w (by simpa [codeYOK] using hk) hs) ?_)
      rintro e2 a w ⟨env2, st2, β2, RO2, ⟨rfl, rfl, rfl⟩, hs2⟩
      cases e2 with
      | exit i =>
        simp only at h
        simp only [Exit.inBlock]
        split at h
        · rename_i hi
          cases h
          rw [if_pos (Nat.eq_of_beq_eq_true hi)]; exact fin hs2
        · rename_i hi
          cases h
          rw [if_neg (fun he => by subst he; rw [Nat.beq_refl] at hi; cases hi)]; exact fin hs2
      | _ => cases h; exact fin hs2
    · cases h
  | loop b =>
    simp only [evS] at h
    exact wpIn_loop_rounds m (loopE_in hr (by simpa [codeYOK] using hk) m β RO env st k a w hs h)
  | scope b =>
    simp only [evS] at h
    split at h
    · rename_i e1 env1 st1 k1 h1
      refine wpIn_scope (wpIn_mono (hr _ _ _ _ _ _ _ _ _ _ h1 E N β RO a w (by simpa [codeYOK] using hk) hs) ?_)
      rintro e2 a w ⟨env2, st2, β2, RO2, ⟨rfl, rfl, rfl⟩, hs2⟩
      cases e2 with
      | goto l => cases h
      | _ => cases h; exact fin hs2
    · cases h
  | _ => cases h
end
end Go.Fw

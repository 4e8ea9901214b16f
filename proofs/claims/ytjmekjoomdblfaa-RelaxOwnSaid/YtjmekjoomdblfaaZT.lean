/- Copies; the law RelaxOwn; tasks that can be read, and how long their lists are. -/
import Derived.Test.YtjmekjoomdblfaaZP
import Derived.Test.YtjmekjoomdblfaaZS
import Derived.Test.YtjmekjoomdblfaaZR
import Derived.SizedLaws

/- What the reference's functions do: copies. -/
namespace Go.Fw
open Go Go.Proofs Heap
set_option maxRecDepth 10000

theorem f22o_spec (n1 : Bool) (l : List Lit) (hl : l.length ≤ 8796093021952) (out : List Fr) : SpecP Try.prog 22 [.lits n1 l] out fun r ro => r = accV 32 2 (l.map tLit) ∧ ro = accO 32 51 2 (l.map tLit) := by
  refine spec_body cx_ok [] [] (fn := Try.f22) (by kernel_rfl) rfl (by kernel_rfl) rfl (by unfold FnOK; kernel_rfl) fun hok => ?_
  cases l with
  | nil => exact Exists.intro [] ⟨rfl, rfl⟩
  | cons x r =>
    refine And.intro (by simp at hl ⊢; omega) (And.intro (by simp at hl ⊢; omega) ?_)
    exact Exists.intro [32] ⟨rfl, rfl⟩
theorem f22_spec (n1 : Bool) (l : List Lit) (hl : l.length ≤ 8796093021952) (out : List Fr) : SpecP Try.prog 22 [.lits n1 l] out fun r ro => r = .lits l.isEmpty l ∧ ro = [] :=
  (f22o_spec n1 l hl out).close fun r ro ⟨h1, h2⟩ => by
    refine ⟨_, ?_, rfl, rfl⟩
    rw [h1]
    have := acc_cls (s := 32) (e := 51) (sz := 2) (es := l.map tLit) (ro := ro) fun x r he => by rw [h2, he]; exact look_cons .. |>.trans (if_pos rfl)
    rw [show l.isEmpty = (l.map tLit).isEmpty by cases l <;> rfl]
    exact this

/-! ### An action -/
def copyE (e : Eff) : Eff := { e with nil := e.when_.isEmpty }
def copyA (a : Actn) : Actn := { a with pn := a.pre.isEmpty, en := a.effs.isEmpty, effs := a.effs.map copyE }
def kp47 : Kp := [(4, ([1, 2, 3, 11, 12, 13], [8, 16, 200]))]
def od47 : Od := [(6, [(0, .tree (.pure 0 (.pure 1 (.pure 2 (.pure 4 (.pure 5 (.last 3 (.pure 6 (.eff 7 (.last 8 (.last 9 .done []) [4]))) [0, 4, 5])))))))])]
theorem f47o_spec (a : Actn) (hp : a.pre.length ≤ 8796093021952) (he : a.effs.length ≤ 3518437208780) (hw : ∀ e ∈ a.effs, e.when_.length ≤ 8796093021952) (out : List Fr) :
    SpecP Try.prog 47 [.act a] out fun r ro => r = .agg [.t (.v (.string a.name)), .int a.cost, .lits a.pre.isEmpty a.pre, accV 200 3 ((a.effs.map copyE).map tEff)] ∧ ro = accO 200 56 3 ((a.effs.map copyE).map tEff) := by
  refine spec_body cx_ok kp47 od47 (fn := Try.f47) (by kernel_rfl) rfl (by kernel_rfl) rfl (by unfold FnOK; kernel_rfl) fun hok => ?_
  refine SpecP.mono (f22_spec a.pn a.pre hp []) ?_
  rintro _ _ ⟨rfl, rfl⟩
  refine LoopW.mk (Nat × List Eff) (fun q => q.1 ≤ a.effs.length ∧ q.2 = (a.effs.take q.1).map copyE) (fun q => [(1, .ptr (.cur 8) 0), (2, .ptr (.cur 16) 0), (3, accV 200 3 (q.2.map tEff)), (11, .t (.sl a.en 3 (a.effs.map tEff))), (12, .int (a.effs.map tEff).length), (13, .int q.1)])
    (fun q => ⟨out, (8, .box [.t (.v (.string a.name)), .int a.cost, .lits a.pre.isEmpty a.pre, .t (.sl a.en 3 (a.effs.map tEff))]) :: (16, .box [.t (.v (.string ⟨#[]⟩)), .int 0, .t (.sl true 0 []), .t (.sl true 0 [])]) :: accO 200 56 3 (q.2.map tEff)⟩) (fun q => a.effs.length - q.1) (0, []) ⟨Nat.zero_le _, rfl⟩ ⟨rfl, rfl⟩ ?_
  rintro ⟨i, M⟩ ⟨hi0, hM⟩
  simp only at hi0 hM
  have hMl : M.length ≤ 3518437208780 := by rw [hM, List.length_map, List.length_take]; omega
  cases M
  case' nil => let M2 : List Eff := []
  case' cons x r => let M2 : List Eff := x :: r
  all_goals
    refine And.intro (fun h1 => ?_) fun h1 => ?_
    rotate_left
    · have hi : i = a.effs.length := by have := ge_of_dec h1; have : i ≤ a.effs.length := hi0; omega
      rw [hi, List.take_length] at hM
      have hM' : M2 = a.effs.map copyE := hM
      exact Exists.intro [200] ⟨congrArg (fun z : List Eff => LV.agg [.t (.v (.string a.name)), .int a.cost, .lits a.pre.isEmpty a.pre, accV 200 3 (z.map tEff)]) hM', congrArg (fun z : List Eff => accO 200 56 3 (z.map tEff)) hM'⟩
    have hi : i < a.effs.length := lt_of_dec h1
    have hem : a.effs[i] ∈ a.effs := List.getElem_mem hi
    refine And.intro (by omega) (Exists.intro _ (And.intro (get_map hi) ?_))
    refine SpecP.mono (f22_spec a.effs[i].nil a.effs[i].when_ (hw _ hem) _) ?_
    rintro _ _ ⟨rfl, rfl⟩
    have hl4 : ∀ X : List T, ((M2.map tEff) ++ [X]).length ≤ 3518437208781 := fun X => by
      have : M2.length ≤ 3518437208780 := hMl
      rw [List.length_append, List.length_map, List.length_singleton]; omega
    have hnew : M2 ++ [copyE a.effs[i]] = (a.effs.take (i + 1)).map copyE := by
      rw [List.take_add_one, List.getElem?_eq_getElem hi, List.map_append, ← hM]; rfl
    repeat first
      | refine And.intro (Nat.le_of_ble_eq_true rfl) ?_
      | refine And.intro rfl ?_
      | refine And.intro (Nat.le_trans (Nat.mul_le_mul_right _ (hl4 _)) (Nat.le_of_ble_eq_true rfl)) ?_
      | refine And.intro (Nat.le_trans (hl4 _) (Nat.le_of_ble_eq_true rfl)) ?_
    refine And.intro (by show (-9223372036854775808 : Int) ≤ (i : Int) + 1; omega) (And.intro (by show (i : Int) + 1 ≤ 9223372036854775807; omega) ?_)
    first
      | exact Exists.intro (i + 1, [copyE a.effs[i]]) (And.intro (by show a.effs.length - (i + 1) < a.effs.length - i; omega) (And.intro ⟨hi, hnew⟩ (And.intro rfl rfl)))
      | (refine Exists.intro (i + 1, x :: (r ++ [copyE a.effs[i]])) (And.intro (by show a.effs.length - (i + 1) < a.effs.length - i; omega) (And.intro ⟨hi, hnew⟩ ?_))
         have e : (r ++ [copyE a.effs[i]]).map tEff = r.map tEff ++ [tEff (copyE a.effs[i])] := by simp
         simp only [List.map_cons, e]
         exact And.intro rfl rfl)

theorem f47_spec (a : Actn) (hp : a.pre.length ≤ 8796093021952) (he : a.effs.length ≤ 3518437208780) (hw : ∀ e ∈ a.effs, e.when_.length ≤ 8796093021952) (out : List Fr) : SpecP Try.prog 47 [.act a] out fun r ro => r = .act (copyA a) ∧ ro = [] :=
  (f47o_spec a hp he hw out).close fun r ro ⟨h1, h2⟩ => by
    refine ⟨_, ?_, rfl, rfl⟩
    rw [h1]
    have := acc_cls (s := 200) (e := 56) (sz := 3) (es := (a.effs.map copyE).map tEff) (ro := ro) fun x r he => by rw [h2, he]; exact look_cons .. |>.trans (if_pos rfl)
    refine .agg _ [.t (.v (.string a.name)), .int a.cost, .lits a.pre.isEmpty a.pre, .t (.sl a.effs.isEmpty 3 ((a.effs.map copyE).map tEff))] rfl fun i x y hx hy => ?_
    match i with
    | 0 => simp at hx hy; subst hx hy; exact .same _
    | 1 => simp at hx hy; subst hx hy; exact .same _
    | 2 => simp at hx hy; subst hx hy; exact .same _
    | 3 =>
      simp at hx hy; subst hx hy
      have e : ((a.effs.map copyE).map tEff).isEmpty = a.effs.isEmpty := by cases a.effs <;> rfl
      rw [e] at this
      rw [List.map_map] at this; exact this
    | i + 4 => simp at hx

/-! ### A copy is the same -/
def kp48 : Kp := [(4, ([3, 37, 38, 39], [24]))]
def od48 : Od := [(6, [(0, .pure), (1, .pure), (2, .pure), (3, .pure), (4, .pure), (5, .pure), (6, .pure), (7, .pure), (8, .pure), (9, .pure), (10, .pure), (11, .pure), (12, .pure), (13, .pure), (14, .pure), (15, .pure), (16, .pure), (17, .pure), (18, .eff), (19, .pure), (20, .pure)])]
theorem f48_spec (a : Actn) (out : List Fr) : SpecP Try.prog 48 [.act (copyA a), .act a] out fun r ro => r = .bool true ∧ ro = [] := by
  refine spec_body cx_ok kp48 od48 (fn := Try.f48) (by kernel_rfl) rfl (by kernel_rfl) rfl (by unfold FnOK; kernel_rfl) fun hok => ?_
  have hmx := le_max hok.2.1.2.2.2.1.1
  refine And.intro (fun h => absurd h (by simp [copyA])) fun _ => ?_
  refine And.intro (fun h => absurd h (by simp [copyA])) fun _ => ?_
  refine SpecP.mono (f20_spec a.pre.isEmpty a.pn a.pre a.pre []) ?_
  rintro _ _ ⟨rfl, rfl⟩
  refine And.intro (fun _ => ?_) fun h => absurd h (by simp)
  refine And.intro (fun h => absurd h (by simp [copyA])) fun _ => ?_
  refine LoopW.mk Nat (fun i => i ≤ a.effs.length) (fun i => [(3, .ptr (.cur 24) 0), (37, .t (.sl a.effs.isEmpty 3 ((a.effs.map copyE).map tEff))), (38, .int ((a.effs.map copyE).map tEff).length), (39, .int i)])
    (fun _ => ⟨out, [(24, .box (cellsAct a))]⟩) (fun i => a.effs.length - i) 0 (Nat.zero_le _) ⟨rfl, rfl⟩ fun i hi0 => ?_
  have hcl : ((a.effs.map copyE).map tEff).length = a.effs.length := by simp
  refine And.intro (fun h1 => ?_) fun h1 => ?_
  · have hi : i < a.effs.length := by
      have h1' : (i : Int) < (((a.effs.map copyE).map tEff).length : Int) := of_decide_eq_true h1
      omega
    have hg1 : ((a.effs.map copyE).map tEff)[((i : Nat) : Int).toNat]? = some (tEff (copyE a.effs[i])) := by
      rw [Int.toNat_natCast, List.getElem?_map, List.getElem?_map, List.getElem?_eq_getElem hi]; rfl
    refine And.intro (by omega) (Exists.intro _ (And.intro hg1 ?_))
    refine And.intro (by omega) (Exists.intro _ (And.intro (get_map hi) ?_))
    refine And.intro (fun h => absurd h (by simp [copyE])) fun _ => ?_
    refine And.intro (by omega) (Exists.intro _ (And.intro (get_map hi) ?_))
    refine SpecP.mono (f20_spec a.effs[i].when_.isEmpty a.effs[i].nil a.effs[i].when_ a.effs[i].when_ []) ?_
    rintro _ _ ⟨rfl, rfl⟩
    refine And.intro ⟨rfl, rfl, rfl⟩ ?_
    refine And.intro (fun _ => ?_) fun h => absurd h (by simp)
    refine And.intro (by omega) (And.intro (by omega) ?_)
    exact Exists.intro (i + 1) (And.intro (by show a.effs.length - (i + 1) < a.effs.length - i; omega) (And.intro hi (And.intro rfl rfl)))
  · exact Exists.intro [] ⟨rfl, rfl⟩

end Go.Fw

/- What the reference's functions do: a copied task is the same. -/
namespace Go.Fw
open Go Go.Proofs Heap
set_option maxRecDepth 10000

def copyT (t : Task) : Task := { t with fn := t.facts.isEmpty, ni := t.init.isEmpty, gn := t.goal.isEmpty, an := t.acts.isEmpty, acts := t.acts.map copyA }
def kp23 : Kp := [(4, ([2, 3, 42, 43, 44], [16, 24])), (10, ([3, 58, 59, 60], [24]))]
def od23 : Od := [(12, [(0, .pure), (1, .pure), (2, .pure), (3, .pure), (4, .pure), (5, .pure), (6, .eff), (7, .pure)])]
theorem f23_spec (t : Task) (out : List Fr) : SpecP Try.prog 23 [.task (copyT t), .task t] out fun r ro => r = .bool true ∧ ro = [] := by
  refine spec_body cx_ok kp23 od23 (fn := Try.f23) (by kernel_rfl) rfl (by kernel_rfl) rfl (by unfold FnOK; kernel_rfl) fun hok => ?_
  have hmf := le_max hok.2.1.1.1
  have hma := le_max hok.2.1.2.2.2.1.1
  refine And.intro (fun h => absurd h (by simp [copyT])) fun _ => ?_
  refine SpecP.mono (f24_spec t.init.isEmpty t.ni t.init t.init []) ?_
  rintro _ _ ⟨rfl, rfl⟩
  refine And.intro (fun _ => ?_) fun h => absurd h (by simp)
  refine SpecP.mono (f20_spec t.goal.isEmpty t.gn t.goal t.goal []) ?_
  rintro _ _ ⟨rfl, rfl⟩
  refine And.intro (fun _ => ?_) fun h => absurd h (by simp)
  refine And.intro (fun h => absurd h (by simp [copyT])) fun _ => ?_
  refine LoopW.mk Nat (fun i => i ≤ t.facts.length) (fun i => [(2, .ptr (.cur 16) 0), (3, .ptr (.cur 24) 0), (42, .t (.sl t.facts.isEmpty 1 (t.facts.map tS))), (43, .int (t.facts.map tS).length), (44, .int i)])
    (fun _ => ⟨out, [(16, .box (cellsTask (copyT t))), (24, .box (cellsTask t))]⟩) (fun i => t.facts.length - i) 0 (Nat.zero_le _) ⟨rfl, rfl⟩ fun i hi0 => ?_
  refine And.intro (fun h1 => ?_) fun h1 => ?_
  · have hi : i < t.facts.length := lt_of_dec h1
    refine And.intro (by omega) (Exists.intro _ (And.intro (get_map hi) ?_))
    refine And.intro (by omega) (Exists.intro _ (And.intro (get_map hi) ?_))
    refine And.intro (fun h => absurd h (by simp)) fun _ => ?_
    refine And.intro (by omega) (And.intro (by omega) ?_)
    exact Exists.intro (i + 1) (And.intro (by show t.facts.length - (i + 1) < t.facts.length - i; omega) (And.intro hi (And.intro rfl rfl)))
  refine LoopW.mk Nat (fun i => i ≤ t.acts.length) (fun i => [(3, .ptr (.cur 24) 0), (58, .t (.sl t.acts.isEmpty 4 ((t.acts.map copyA).map tAct))), (59, .int ((t.acts.map copyA).map tAct).length), (60, .int i)])
    (fun _ => ⟨out, [(24, .box (cellsTask t))]⟩) (fun i => t.acts.length - i) 0 (Nat.zero_le _) ⟨rfl, rfl⟩ fun i hi0 => ?_
  have hcl : ((t.acts.map copyA).map tAct).length = t.acts.length := by simp
  refine And.intro (fun h1 => ?_) fun h1 => ?_
  · have hi : i < t.acts.length := by
      have h1' : (i : Int) < (((t.acts.map copyA).map tAct).length : Int) := of_decide_eq_true h1
      omega
    have hg1 : ((t.acts.map copyA).map tAct)[((i : Nat) : Int).toNat]? = some (tAct (copyA t.acts[i])) := by
      rw [Int.toNat_natCast, List.getElem?_map, List.getElem?_map, List.getElem?_eq_getElem hi]; rfl
    refine And.intro (by omega) (Exists.intro _ (And.intro hg1 ?_))
    refine And.intro (by omega) (Exists.intro _ (And.intro (get_map hi) ?_))
    refine SpecP.mono (f48_spec t.acts[i] []) ?_
    rintro _ _ ⟨rfl, rfl⟩
    refine And.intro ⟨rfl, rfl, rfl⟩ ?_
    refine And.intro (fun _ => ?_) fun h => absurd h (by decide)
    refine And.intro (by omega) (And.intro (by omega) ?_)
    exact Exists.intro (i + 1) (And.intro (by show t.acts.length - (i + 1) < t.acts.length - i; omega) (And.intro hi (And.intro rfl rfl)))
  · exact Exists.intro [] ⟨rfl, rfl⟩

end Go.Fw

/- What the reference's functions do: a task is copied. -/
namespace Go.Fw
open Go Go.Proofs Heap
set_option maxRecDepth 10000

def kp21 : Kp := [(2, ([1, 2, 3], [0, 8, 16, 24, 64, 88])), (3, ([2, 3, 17, 18, 19], [16, 24, 64, 88, 224]))]
def od21 : Od := [(1, [(0, .tree (.pure 0 (.pure 1 (.pure 3 (.pure 4 (.pure 6 (.pure 7 (.fork 2 (.fork 5 (.fork 8 (.pure 9 (.eff 10 (.last 11 .done []))) [0] (.last 10 (.last 8 (.pure 9 (.last 11 .done [])) [0]) [0, 1, 3, 4, 6, 7])) [6, 7] (.last 10 (.last 5 (.last 8 (.pure 9 (.last 11 .done [])) [0]) [6, 7]) [0, 1, 3, 4, 6, 7])) [3, 4, 6, 7] (.last 10 (.last 2 (.last 5 (.last 8 (.pure 9 (.last 11 .done [])) [0]) [6, 7]) [3, 4, 6, 7]) [0, 1, 3, 4, 6, 7])))))))))]), (5, [(0, .tree (.pure 0 (.pure 1 (.pure 2 (.last 3 (.eff 4 (.last 5 (.pure 6 (.last 7 .done [])) [])) [0, 1])))))])]
abbrev rest21 (k : Nat) (env : Env) (st : St) (Q : Exit → Env → St → Prop) : Prop := CutX (fun env st => wpcX cx Try.prog noY (modH Try.prog) 0 kp21 od21 (tailC k (Try.f21.body.get!)) env st Q) env st
/-- Where the copies of the facts and of the initial state lie. -/
abbrev resO (t : Task) (M : List Actn) : LV → Fr → Prop := fun r ro => r = .agg [accV 64 1 (t.facts.map tS), accV 88 1 (t.init.map tI), .lits t.goal.isEmpty t.goal, accV 224 4 (M.map tAct)] ∧ ro = accO 64 9 1 (t.facts.map tS) ++ (accO 88 3 1 (t.init.map tI) ++ accO 224 59 4 (M.map tAct))
/-- The lists are not longer than what may be read. -/
structure TaskS (t : Task) : Prop where
  facts : t.facts.length ≤ 8796093021952
  init : t.init.length ≤ 17592186043904
  goal : t.goal.length ≤ 8796093021952
  acts : t.acts.length ≤ 1954687338211
  pre : ∀ a ∈ t.acts, a.pre.length ≤ 8796093021952
  effs : ∀ a ∈ t.acts, a.effs.length ≤ 3518437208780
  whn : ∀ a ∈ t.acts, ∀ e ∈ a.effs, e.when_.length ≤ 8796093021952
set_option maxHeartbeats 2000000 in
theorem f21o_spec (t : Task) (S : TaskS t) (out : List Fr) : SpecP Try.prog 21 [.task t] out (resO t (t.acts.map copyA)) := by
  refine spec_walkH cx_ok mH_ok kp21 od21 (fn := Try.f21) (by kernel_rfl) rfl (by kernel_rfl) rfl (by unfold FnOK; kernel_rfl) fun hok => ?_
  obtain ⟨fn, facts, ni, init, gn, goal, an, acts⟩ := t
  have s1 : facts.length ≤ 8796093021952 := S.facts
  have s2 : init.length ≤ 17592186043904 := S.init
  have s3 : goal.length ≤ 8796093021952 := S.goal
  have rest : rest21 2 [(1, .ptr (.cur 8) 0), (2, .ptr (.cur 16) 0), (3, .ptr (.cur 24) 0)]
      ⟨out, [(8, .box (cellsTask ⟨fn, facts, ni, init, gn, goal, an, acts⟩)), (16, .box [.t (.sl true 0 []), .t (.sl true 0 []), .t (.sl true 0 []), .t (.sl true 0 [])]), (24, .box [accV 64 1 (facts.map tS), accV 88 1 (init.map tI), .lits goal.isEmpty goal, .t (.sl true 0 [])])] ++ (accO 64 9 1 (facts.map tS) ++ accO 88 3 1 (init.map tI))⟩
      (retW cx Try.f21.results.toList (resO ⟨fn, facts, ni, init, gn, goal, an, acts⟩ (acts.map copyA))) := by
    have hac : acts.length ≤ 1954687338211 := S.acts
    refine CutX.mk ?_
    cases facts
    case' nil => let Fs : List ByteArray := []
    case' cons x r => let Fs : List ByteArray := x :: r
    all_goals
      cases init
      case' nil => let Is : List Int := []
      case' cons y q => let Is : List Int := y :: q
      all_goals
        refine LoopX.mk (Nat × List Actn) (fun q => q.1 ≤ acts.length ∧ q.2 = (acts.take q.1).map copyA) (fun q => [(2, .ptr (.cur 16) 0), (3, .ptr (.cur 24) 0), (17, .t (.sl an 4 (acts.map tAct))), (18, .int (acts.map tAct).length), (19, .int q.1)])
          (fun q => ⟨out, [(16, .box [.t (.sl true 0 []), .t (.sl true 0 []), .t (.sl true 0 []), .t (.sl true 0 [])]), (24, .box [accV 64 1 (Fs.map tS), accV 88 1 (Is.map tI), .lits goal.isEmpty goal, accV 224 4 (q.2.map tAct)])] ++ (accO 64 9 1 (Fs.map tS) ++ (accO 88 3 1 (Is.map tI) ++ accO 224 59 4 (q.2.map tAct)))⟩) (fun q => acts.length - q.1) (0, []) ⟨Nat.zero_le _, rfl⟩ ⟨rfl, rfl⟩ ?_
        rintro ⟨i, M⟩ ⟨hi0, hM⟩
        simp only at hi0 hM
        have hMl : M.length ≤ 1954687338211 := by rw [hM, List.length_map, List.length_take]; omega
        cases M
        case' nil => let M2 : List Actn := []
        case' cons z w => let M2 : List Actn := z :: w
        all_goals
          refine And.intro (fun h1 => ?_) fun h1 => ?_
          rotate_left
          · have hi : i = acts.length := by have := ge_of_dec h1; have : i ≤ acts.length := hi0; omega
            rw [hi, List.take_length] at hM
            have hM' : M2 = acts.map copyA := hM
            show _
            rw [← hM']
            exact Exists.intro [64, 88, 224] ⟨rfl, rfl⟩
          have hi : i < acts.length := lt_of_dec h1
          have hem : acts[i] ∈ acts := List.getElem_mem hi
          refine And.intro (by omega) (Exists.intro _ (And.intro (get_map hi) ?_))
          refine SpecP.mono (f47_spec acts[i] (S.pre _ hem) (S.effs _ hem) (S.whn _ hem) _) ?_
          rintro _ _ ⟨rfl, rfl⟩
          have hl4 : ∀ X : List T, ((M2.map tAct) ++ [X]).length ≤ 1954687338212 := fun X => by
            have : M2.length ≤ 1954687338211 := hMl
            rw [List.length_append, List.length_map, List.length_singleton]; omega
          have hnew : M2 ++ [copyA acts[i]] = (acts.take (i + 1)).map copyA := by
            rw [List.take_add_one, List.getElem?_eq_getElem hi, List.map_append, ← hM]; rfl
          repeat first
            | refine And.intro (Nat.le_of_ble_eq_true rfl) ?_
            | refine And.intro rfl ?_
            | refine And.intro (Nat.le_trans (Nat.mul_le_mul_right _ (hl4 _)) (Nat.le_of_ble_eq_true rfl)) ?_
            | refine And.intro (Nat.le_trans (hl4 _) (Nat.le_of_ble_eq_true rfl)) ?_
          refine And.intro (by show (-9223372036854775808 : Int) ≤ (i : Int) + 1; omega) (And.intro (by show (i : Int) + 1 ≤ 9223372036854775807; omega) ?_)
          first
            | exact Exists.intro (i + 1, [copyA acts[i]]) (And.intro (by show acts.length - (i + 1) < acts.length - i; omega) (And.intro ⟨hi, hnew⟩ (And.intro rfl rfl)))
            | (refine Exists.intro (i + 1, z :: (w ++ [copyA acts[i]])) (And.intro (by show acts.length - (i + 1) < acts.length - i; omega) (And.intro ⟨hi, hnew⟩ ?_))
               have e : (w ++ [copyA acts[i]]).map tAct = w.map tAct ++ [tAct (copyA acts[i])] := by simp
               simp only [List.map_cons, e]
               exact And.intro rfl rfl)
  cases facts
  all_goals
    cases init
    all_goals
      simp only [List.length_cons, List.length_nil] at s1 s2
      repeat' first
        | refine And.intro rfl ?_
        | refine And.intro (by simp; omega) ?_
        | (refine SpecP.mono (f22_spec gn goal s3 _) ?_; rintro _ _ ⟨rfl, rfl⟩)
        | refine And.intro ?_ ?_
        | exact rest

theorem look_acc {σ e sz : Nat} {es : List (List T)} {R : Fr} {k : Nat} (h : σ ≠ k) : look (accO σ e sz es ++ R) k = look R k := by
  cases es with
  | nil => rfl
  | cons x r => exact (look_cons ..).trans (if_neg (fun he => h he))
theorem f21_spec (t : Task) (S : TaskS t) (out : List Fr) : SpecP Try.prog 21 [.task t] out fun r ro => r = .task (copyT t) ∧ ro = [] :=
  (f21o_spec t S out).close fun r ro ⟨h1, h2⟩ => by
    refine ⟨_, ?_, rfl, rfl⟩
    rw [h1]
    have a1 := acc_cls (s := 64) (e := 9) (sz := 1) (es := t.facts.map tS) (ro := ro) fun x r he => by rw [h2, he]; exact look_cons .. |>.trans (if_pos rfl)
    have a2 := acc_cls (s := 88) (e := 3) (sz := 1) (es := t.init.map tI) (ro := ro) fun x r he => by rw [h2, look_acc (by decide), he]; exact look_cons .. |>.trans (if_pos rfl)
    have a3 := acc_cls (s := 224) (e := 59) (sz := 4) (es := (t.acts.map copyA).map tAct) (ro := ro) fun x r he => by rw [h2, look_acc (by decide), look_acc (by decide), he]; exact look_cons .. |>.trans (if_pos rfl)
    rw [show (t.facts.map tS).isEmpty = t.facts.isEmpty by cases t.facts <;> rfl] at a1
    rw [show (t.init.map tI).isEmpty = t.init.isEmpty by cases t.init <;> rfl] at a2
    rw [show ((t.acts.map copyA).map tAct).isEmpty = t.acts.isEmpty by cases t.acts <;> rfl] at a3
    refine .agg _ [.t (.sl t.facts.isEmpty 1 (t.facts.map tS)), .t (.sl t.init.isEmpty 1 (t.init.map tI)), .lits t.goal.isEmpty t.goal, .t (.sl t.acts.isEmpty 4 ((t.acts.map copyA).map tAct))] rfl fun i x y hx hy => ?_
    match i with
    | 0 => simp at hx hy; subst hx hy; exact a1
    | 1 => simp at hx hy; subst hx hy; exact a2
    | 2 => simp at hx hy; subst hx hy; exact .same _
    | 3 => simp at hx hy; subst hx hy; rw [List.map_map] at a3; exact a3
    | i + 4 => simp at hx

end Go.Fw

/- The law RelaxOwn. -/
namespace Go.Fw
open Go Go.Proofs Heap
set_option maxRecDepth 10000

theorem f9w_spec (t : Task) (n1 n2 : Bool) (s : List Int) (l : List Lit) (out : List Fr) : SpecP Try.prog 9 [.task t, .ints n1 s, .lits n2 l] out fun r ro => ∃ (a e : Int) (b : Bool), r = .tup [.int a, .bool b, .int e] ∧ ro = [] :=
  (f9_spec t n1 n2 s l out).mono fun r ro ⟨h, h2⟩ => by rcases h with ⟨_, h⟩ | ⟨_, d, _, h⟩ <;> exact ⟨_, _, _, h, h2⟩
theorem f10w_spec (t : Task) (n1 n2 : Bool) (s : List Int) (l : List Lit) (hll : l.length ≤ 1000000000) (out : List Fr) : SpecP Try.prog 10 [.task t, .ints n1 s, .lits n2 l] out fun r ro => ∃ (a e : Int) (b : Bool), r = .tup [.int a, .bool b, .int e] ∧ ro = [] :=
  (f10_spec t n1 n2 s l hll out).mono fun r ro ⟨h, h2⟩ => by
    rcases h with ⟨_, h⟩ | ⟨_, d, _, h⟩
    · exact ⟨_, _, _, h, h2⟩
    · split at h
      · exact ⟨_, _, _, h, h2⟩
      · split at h
        · exact ⟨_, _, _, h, h2⟩
        · exact ⟨_, _, _, h, h2⟩
theorem f19w_spec (t : Task) (n1 n2 : Bool) (s : List Int) (l : List Lit) (out : List Fr) : SpecP Try.prog 19 [.task t, .ints n1 s, .lits n2 l] out fun r ro => ∃ (e : Int) (b : Bool), r = .tup [.bool b, .int e] ∧ ro = [] :=
  (f19_spec t n1 n2 s l out).mono fun r ro ⟨h, h2⟩ => by rcases h with ⟨_, h⟩ | ⟨_, d, _, h⟩ <;> exact ⟨_, _, h, h2⟩
theorem f13w_spec (t : Task) (n1 n2 n3 : Bool) (s p : List Int) (l : List Lit) (out : List Fr) : SpecP Try.prog 13 [.task t, .ints n1 s, .ints n2 p, .lits n3 l] out fun r ro => ∃ (e : Int) (b : Bool), r = .tup [.bool b, .int e] ∧ ro = [] :=
  (f13_spec t n1 n2 n3 s p l out).mono fun r ro ⟨h, h2⟩ => by
    split at h
    · exact ⟨_, _, h, h2⟩
    · split at h
      · exact ⟨_, _, h, h2⟩
      · exact ⟨_, _, h, h2⟩
theorem f13nw_spec (t : Task) (n1 n3 : Bool) (s : List Int) (l : List Lit) (out : List Fr) : SpecP Try.prog 13 [.task t, .ints n1 s, .t (.sl true 0 []), .lits n3 l] out fun r ro => ∃ (e : Int) (b : Bool), r = .tup [.bool b, .int e] ∧ ro = [] :=
  (f13n_spec t n1 n3 s l out).mono fun r ro ⟨h, h2⟩ => by
    split at h
    · exact ⟨_, _, h, h2⟩
    · split at h
      · exact ⟨_, _, h, h2⟩
      · exact ⟨_, _, h, h2⟩
/-- What Plan hands back. -/
theorem PostPD.form {t : Task} {s : List Int} {l : List Lit} {r : LV} {ro : Fr} (h : PostPD t s l r ro) :
    ∃ (p : List Int) (b : Bool) (e : Int), p.length ≤ 1000 ∧ r = .tup [accV 744 1 (p.map tI), .bool b, .int e] ∧ ro = accO 744 3 1 (p.map tI) := by
  rcases h with ⟨h0, rfl, rfl⟩ | ⟨h0, d, hd, hdet, ⟨g, rfl, rfl⟩ | ⟨g, p, hp, _, rfl, rfl⟩⟩
  · exact ⟨[], _, _, Nat.zero_le _, rfl, rfl⟩
  · exact ⟨[], _, _, Nat.zero_le _, rfl, rfl⟩
  · refine ⟨p, _, _, ?_, rfl, rfl⟩
    obtain ⟨hf, _⟩ := ask_zero h0
    have hN := (task_ok (fine_zero hf).1).facts
    have h1 := hp.len
    have h2 : (litsOf d.v (2 * t.facts.length)).length ≤ 2 * t.facts.length := by
      unfold litsOf
      rw [List.length_map]
      exact Nat.le_trans (List.length_filter_le _ _) (by rw [List.length_range]; exact Nat.le_refl _)
    omega
/-- There is one list for given arguments. -/
theorem PostPD.two {t : Task} {s : List Int} {l : List Lit} {r r' : LV} {ro ro' : Fr} (h : PostPD t s l r ro) (h' : PostPD t s l r' ro') : r' = r ∧ ro' = ro := by
  rcases h with ⟨h0, rfl, rfl⟩ | ⟨h0, d, hd, hdet, h⟩
  · rcases h' with ⟨_, rfl, rfl⟩ | ⟨h0', _⟩
    · exact ⟨rfl, rfl⟩
    · exact absurd h0' h0
  · rcases h' with ⟨h0', _⟩ | ⟨_, d', hd', hdet', h'⟩
    · exact absurd h0 h0'
    have := hdet.uniq hdet'
    subst this
    rcases h with ⟨g, rfl, rfl⟩ | ⟨g, p, _, hp, rfl, rfl⟩
    · rcases h' with ⟨_, rfl, rfl⟩ | ⟨g', _⟩
      · exact ⟨rfl, rfl⟩
      · rw [g] at g'; cases g'
    · rcases h' with ⟨g', _⟩ | ⟨_, p', _, hp', rfl, rfl⟩
      · rw [g] at g'; cases g'
      · have := hp.uniq hp'
        subst this
        exact ⟨rfl, rfl⟩
def kp6 : Kp := [(6, ([1, 2, 3, 7, 8, 9, 10, 39, 40], [24, 56, 232, 281001131])), (10, ([1, 2, 3, 7, 8, 9], [0, 24, 56, 232])), (15, ([1, 2, 3, 7, 8, 9, 13, 15, 69, 70], [24, 56, 232, 513002283]))]
abbrev rest6 (k : Nat) (env : Env) (st : St) (Q : Exit → Env → St → Prop) : Prop := CutX (fun env st => wpcX cx Try.prog noY (modH Try.prog) 0 kp6 [] (tailC k (Try.f6.body.get!)) env st Q) env st
set_option maxHeartbeats 2000000 in
theorem f6_tail (t : Task) (n1 n2 : Bool) (s : List Int) (l : List Lit) (hsl : s.length ≤ 300) (hll : l.length ≤ 300) (out : List Fr) :
    rest6 5 [(1, .ints n1 s), (2, .lits n2 l), (3, .ptr (.cur 24) 0), (7, .ptr (.cur 56) 0), (8, accV 232 1 (s.map tI)), (9, .lits l.isEmpty l)]
      ⟨out, (24, .box (cellsTask t)) :: (56, .box (cellsTask (copyT t))) :: accO 232 3 1 (s.map tI)⟩ (retW cx Try.f6.results.toList fun r ro => r = .bool true ∧ ro = []) := by
  refine CutX.mk ?_
  have m14 := f14d_spec t n1 n2 s l (by omega)
  have m9 := f9w_spec t n1 n2 s l
  have m10 := f10w_spec t n1 n2 s l (by omega)
  have m19 := f19w_spec t n1 n2 s l
  have m13 := fun p => f13w_spec t n1 false n2 s p l
  have m13n := f13nw_spec t n1 n2 s l
  have m24 := f24_spec false n1 s s
  have m24n : s = [] → ∀ out, SpecP Try.prog 24 [.t (.sl true 0 []), .ints n1 s] out fun r ro => r = .bool (s == s) ∧ ro = [] := fun h out => SpecP.conv (args' := [.ints true s, .ints n1 s]) (fun β RO w vals hv => ⟨hv.1, fun i z v hz hvz => by
    match i with
    | 0 => simp [h] at hz; subst hz; exact nil_sz _ _ _ _ (hv.2 0 _ v rfl hvz)
    | 1 => exact hv.2 1 z v hz hvz
    | i + 2 => simp at hz⟩) (f24_spec true n1 s s out)
  rw [beq_self_eq_true s] at m24 m24n
  have m20 := f20_spec l.isEmpty n2 l l
  rw [decide_eq_true (rfl : l = l)] at m20
  cases s
  case' nil => let Sx : List Int := []
  case' cons x0 r0 => let Sx : List Int := x0 :: r0
  all_goals
    refine SpecP.mono (m9 _) ?_
    rintro _ _ ⟨_, _, _, rfl, rfl⟩
    refine SpecP.mono (m10 _) ?_
    rintro _ _ ⟨_, _, _, rfl, rfl⟩
    refine SpecP.mono (m19 _) ?_
    rintro _ _ ⟨_, _, rfl, rfl⟩
    refine SpecP.mono (m14 _) ?_
    intro r ro hP
    obtain ⟨p, b, e, hpl, rfl, rfl⟩ := hP.form
    cases p
    case' nil =>
      let Px : List Int := []
      let V13 : LV := .t (.sl true 0 [])
      let O13 : List Int → Fr := fun _ => []
    case' cons y q =>
      let Px : List Int := y :: q
      let V13 : LV := .osl (.cur 513002283) 1 0 (tI y :: q.map tI).length
      let O13 : List Int → Fr := fun es => [(513002283, .row 3 1 (es.map tI))]
    all_goals
      refine And.intro (fun _ => ?_) fun _ => ?_
      all_goals
        refine LoopX.mk (Nat × List Int) (fun u => u.2.length = Px.length) (fun u => [(1, .ints n1 Sx), (2, .lits n2 l), (3, .ptr (.cur 24) 0), (7, .ptr (.cur 56) 0), (8, accV 232 1 (Sx.map tI)), (9, .lits l.isEmpty l), (13, V13), (15, .int e), (69, .int (Px.map tI).length), (70, .int u.1)])
          (fun u => ⟨out, (24, .box (cellsTask t)) :: (56, .box (cellsTask (copyT t))) :: (accO 232 3 1 (Sx.map tI) ++ O13 u.2)⟩) (fun u => Px.length - u.1) (0, Px) rfl ⟨rfl, rfl⟩ ?_
        rintro ⟨i, es⟩ hes
        have hes : es.length = Px.length := hes
        refine And.intro (fun h1 => ?_) fun h1 => ?_
        · first
            | exact absurd (Int.ofNat_lt.1 (of_decide_eq_true h1)) (Nat.not_lt_zero _)
            | skip
          all_goals
            have hpl : Px.length ≤ 1000 := hpl
            have hi : i < es.length := by
              have h1' : (i : Int) < (((Px.map tI).length : Nat) : Int) := of_decide_eq_true h1
              rw [List.length_map] at h1'; omega
            have hiP : i < (tI y :: q.map tI).length := by
              have : (tI y :: q.map tI).length = Px.length := by show _ = (y :: q).length; simp
              omega
            refine And.intro (Int.natCast_nonneg _) (And.intro (Int.ofNat_lt.2 hiP) (Exists.intro _ (And.intro (getI hi) (And.intro (Nat.le_refl 1) ?_))))
            refine And.intro (by show (-9223372036854775808 : Int) ≤ (i : Int) + 1; omega) (And.intro (by show (i : Int) + 1 ≤ 9223372036854775807; omega) ?_)
            refine Exists.intro (i + 1, es.set i (-7)) (And.intro (by show Px.length - (i + 1) < Px.length - i; omega) (And.intro (by show (es.set i (-7)).length = Px.length; rw [List.length_set]; exact hes) ⟨rfl, ?_⟩))
            show _ = (⟨out, (24, .box (cellsTask t)) :: (56, .box (cellsTask (copyT t))) :: (accO 232 3 1 (Sx.map tI) ++ [(513002283, .row 3 1 ((es.set i (-7)).map tI))])⟩ : St)
            rw [← setI]
            rfl
        · clear h1
          refine SpecP.mono (m14 _) ?_
          intro r' ro' hP'
          obtain ⟨rfl, rfl⟩ := hP.two hP'
          refine And.intro (fun _ => ?_) fun _ => ?_
          all_goals
            first
              | refine SpecP.mono (m13n _) ?_
              | (refine Exists.intro _ (And.intro take_all (And.intro (Nat.le_of_eq (Nat.zero_add _)) ?_))
                 refine SpecP.mono (m13 (y :: q) _) ?_)
            rintro _ _ ⟨_, _, rfl, rfl⟩
            try refine And.intro (by repeat' constructor) (And.intro trivial ?_)
            refine SpecP.mono (f23_spec t _) ?_
            rintro _ _ ⟨rfl, rfl⟩
            refine And.intro (fun _ => ?_) fun h => Bool.noConfusion h
            first
              | refine SpecP.mono (m24n rfl _) ?_
              | (refine Exists.intro _ (And.intro take_all (And.intro (Nat.le_of_eq (Nat.zero_add _)) ?_))
                 refine SpecP.mono (m24 _) ?_)
            rintro _ _ ⟨rfl, rfl⟩
            try refine And.intro (by repeat' constructor) (And.intro trivial ?_)
            refine And.intro (fun _ => ?_) fun h => Bool.noConfusion h
            refine SpecP.mono (m20 _) ?_
            rintro _ _ ⟨rfl, rfl⟩
            refine And.intro (fun _ => ?_) fun h => Bool.noConfusion h
            refine And.intro (fun _ => ?_) fun h => Bool.noConfusion (h.symm.trans (beq_self_eq_true _))
            refine And.intro (fun _ => ?_) fun h => Bool.noConfusion (h.symm.trans (beq_self_eq_true _))
            refine SpecP.mono (f8_spec _) ?_
            rintro _ _ ⟨rfl, rfl⟩
            exact And.intro (fun _ => Exists.intro [] (ret_bool rfl rfl)) fun h => Bool.noConfusion h
set_option maxHeartbeats 2000000 in
theorem f6_spec (t : Task) (S : TaskS t) (n1 n2 : Bool) (s : List Int) (l : List Lit) (out : List Fr) : SpecP Try.prog 6 [.task t, .ints n1 s, .lits n2 l] out fun r ro => r = .bool true ∧ ro = [] := by
  refine spec_walkH cx_ok mH_ok kp6 [] (fn := Try.f6) (by kernel_rfl) rfl (by kernel_rfl) rfl (by unfold FnOK; kernel_rfl) fun hok => ?_
  refine SpecP.mono (f7_spec t n1 n2 s l []) ?_
  rintro _ _ ⟨⟨b, rfl, hb⟩, rfl⟩
  refine And.intro (fun h1 => ?_) fun h1 => ?_
  rotate_left
  · refine SpecP.mono (f8_spec []) ?_
    rintro _ _ ⟨rfl, rfl⟩
    exact And.intro (fun _ => Exists.intro [] (ret_bool rfl rfl)) fun h => Bool.noConfusion h
  obtain ⟨hsl, hll⟩ := hb h1
  have tail := f6_tail t n1 n2 s l hsl hll
  have m18 := f18_spec t n1 s
  refine SpecP.mono (f21_spec t S []) ?_
  rintro _ _ ⟨rfl, rfl⟩
  cases s
  case' nil =>
    let Sx : List Int := []
  case' cons x0 r0 =>
    let Sx : List Int := x0 :: r0
    refine And.intro (by simp at hsl ⊢; omega) (And.intro (by simp at hsl ⊢; omega) ?_)
  all_goals
    refine SpecP.mono (f22_spec n2 l (by omega) _) ?_
    rintro _ _ ⟨rfl, rfl⟩
    refine SpecP.mono (m18 _) ?_
    intro r18 ro18 h18
    have hL : ∃ (e : Int) (L : List Lit), L.length ≤ 1000 ∧ r18 = .tup [accV 288 2 (L.map tLit), .int e] ∧ ro18 = accO 288 51 2 (L.map tLit) := by
      rcases h18 with ⟨_, h1, h2⟩ | ⟨hf, d, _, h1, h2⟩
      · exact ⟨_, [], Nat.zero_le _, h1, h2⟩
      · refine ⟨_, _, ?_, h1, h2⟩
        have hN := (task_ok (fine_zero hf).1).facts
        have h2 : (litsOf d.v (2 * t.facts.length)).length ≤ 2 * t.facts.length := by
          unfold litsOf
          rw [List.length_map]
          exact Nat.le_trans (List.length_filter_le _ _) (by rw [List.length_range]; exact Nat.le_refl _)
        omega
    obtain ⟨e, L, hLl, rfl, rfl⟩ := hL
    clear h18
    cases L
    case' nil =>
      let Lx : List Lit := []
      let V10 : LV := .t (.sl true 0 [])
      let O10 : List Lit → Fr := fun _ => []
    case' cons y q =>
      let Lx : List Lit := y :: q
      let V10 : LV := .osl (.cur 281001131) 2 0 (tLit y :: q.map tLit).length
      let O10 : List Lit → Fr := fun es => [(281001131, .row 51 2 (es.map tLit))]
    all_goals
      refine LoopX.mk (Nat × List Lit) (fun u => u.2.length = Lx.length) (fun u => [(1, .ints n1 Sx), (2, .lits n2 l), (3, .ptr (.cur 24) 0), (7, .ptr (.cur 56) 0), (8, accV 232 1 (Sx.map tI)), (9, .lits l.isEmpty l), (10, V10), (39, .int (Lx.map tLit).length), (40, .int u.1)])
        (fun u => ⟨out, (24, .box (cellsTask t)) :: (56, .box (cellsTask (copyT t))) :: (accO 232 3 1 (Sx.map tI) ++ O10 u.2)⟩) (fun u => Lx.length - u.1) (0, Lx) rfl ⟨rfl, rfl⟩ ?_
      rintro ⟨i, es⟩ hes
      have hes : es.length = Lx.length := hes
      refine And.intro (fun h1 => ?_) fun h1 => ?_
      rotate_left
      · exact tail _
      first
        | exact absurd (Int.ofNat_lt.1 (of_decide_eq_true h1)) (Nat.not_lt_zero _)
        | skip
      all_goals
        have hpl : Lx.length ≤ 1000 := hLl
        have hi : i < es.length := by
          have h1' : (i : Int) < (((Lx.map tLit).length : Nat) : Int) := of_decide_eq_true h1
          rw [List.length_map] at h1'; omega
        have hiP : i < (tLit y :: q.map tLit).length := by
          have : (tLit y :: q.map tLit).length = Lx.length := by show _ = (y :: q).length; simp
          omega
        have hgl : (es.map tLit)[0 + ((i : Nat) : Int).toNat]? = some (tLit es[i]) := by rw [Nat.zero_add, Int.toNat_natCast, List.getElem?_map, List.getElem?_eq_getElem hi]; rfl
        refine And.intro (Int.natCast_nonneg _) (And.intro (Int.ofNat_lt.2 hiP) (Exists.intro _ (And.intro hgl (And.intro (Nat.le_of_ble_eq_true rfl) ?_))))
        refine And.intro (by show (-9223372036854775808 : Int) ≤ (i : Int) + 1; omega) (And.intro (by show (i : Int) + 1 ≤ 9223372036854775807; omega) ?_)
        refine Exists.intro (i + 1, es.set i ⟨-7, es[i].neg⟩) (And.intro (by show Lx.length - (i + 1) < Lx.length - i; omega) (And.intro (by show (es.set i _).length = Lx.length; rw [List.length_set]; exact hes) ⟨rfl, ?_⟩))
        have e1 : (es.set i ⟨-7, es[i].neg⟩).map tLit = (es.map tLit).set (0 + ((i : Nat) : Int).toNat) (tLit ⟨-7, es[i].neg⟩) := by rw [Nat.zero_add, Int.toNat_natCast, List.map_set]
        show _ = (⟨out, (24, .box (cellsTask t)) :: (56, .box (cellsTask (copyT t))) :: (accO 232 3 1 (Sx.map tI) ++ [(281001131, .row 51 2 ((es.set i ⟨-7, es[i].neg⟩).map tLit))])⟩ : St)
        rw [e1]
        rfl

end Go.Fw

/- Tasks that can be read, and how long their lists are. -/
namespace Go.Fw
open Go Go.Proofs Go.ChangeShapes Go.WideShapes Go.ChangeAt Go.RowKit

section
variable {C : Ctx} {P : Program} (hC : C.OK P) {H : Type} {enc : TypeId × Value → H} {w : World} {spare : Nat → Bool} {held : Bool}
/-- Nothing that is read is too large. -/
def Wb (P : Program) (t : TypeId) (d : DataW H) : Prop := ∀ n ∈ d.weights P t, n ≤ reachBytes
omit hC in
theorem wb_all {e : TypeId} : ∀ {l : List (DataW H)}, (∀ n ∈ DataW.weightsAll P e l, n ≤ reachBytes) → ∀ d ∈ l, Wb P e d
  | [], _, d, hd => by cases hd
  | x :: r, h, d, hd => by
    simp only [DataW.weightsAll, List.mem_append] at h
    rcases List.mem_cons.1 hd with rfl | hd
    · exact fun n hn => h n (.inl hn)
    · exact wb_all (fun n hn => h n (.inr hn)) d hd
omit hC in
theorem wb_each : ∀ {ts : List TypeId} {ds : List (DataW H)}, (∀ n ∈ DataW.weightsEach P ts ds, n ≤ reachBytes) → ∀ (i : Nat) (t : TypeId) (d : DataW H), ts[i]? = some t → ds[i]? = some d → Wb P t d
  | [], _, _, i, t, d, ht, _ => by simp at ht
  | t0 :: ts, [], _, i, t, d, _, hd => by simp at hd
  | t0 :: ts, d0 :: ds, h, i, t, d, ht, hd => by
    simp only [DataW.weightsEach, List.mem_append] at h
    cases i with
    | zero => simp at ht hd; subst ht hd; exact fun n hn => h n (.inl hn)
    | succ i => exact wb_each (fun n hn => h n (.inr hn)) i t d (by simpa using ht) (by simpa using hd)
include hC
theorem rds_struct {t : Nat} {fs s b z} (ht : C.ty t = some ⟨.struct fs, s, b, z⟩) {fuel : Nat} {cs : List Value} {d : DataW H} {p : List MemPlace} (h : DataW.trod enc P w 0 spare held fuel t cs = some (d, p)) (hw : Wb P t d) :
    cs.length = s ∧ ∀ off ft ti, (off, ft) ∈ fs → C.ty ft = some ti → ∃ n d' p', DataW.trod enc P w 0 spare held n ft ((cs.drop off).take ti.size) = some (d', p') ∧ Wb P ft d' := by
  obtain ⟨dd, h1, h2⟩ := und_ty hC ht
  cases dd <;> simp [descOf] at h2
  rename_i fl
  obtain ⟨xs, n, _, hx0, hl, hlen, hf⟩ := DataW.trod_struct h1 h
  obtain ⟨rfl, _⟩ := Prod.mk.inj hx0
  refine ⟨by rw [hl, cellsOf_ty hC ht], fun off ft ti hm hti => ?_⟩
  have : (off, ft) ∈ fl.toList.map fun f => (f.offset, f.type) := by rw [← h2] at hm; simpa using hm
  obtain ⟨f, hfm, hfe⟩ := List.mem_map.1 this
  simp only [Prod.mk.injEq] at hfe
  obtain ⟨i, hi, hie⟩ := List.getElem_of_mem hfm
  have hfi : fl[i]? = some f := by rw [← hie]; simp at hi ⊢
  have hx := hf i f hfi
  have hil : i < xs.length := by rw [hlen]; simpa using hi
  rw [List.getElem?_eq_getElem hil, hfe.1, hfe.2, cellsOf_ty hC hti] at hx
  refine ⟨n, xs[i].1, xs[i].2, hx, ?_⟩
  simp only [Wb, DataW.weights, h1] at hw
  refine wb_each hw i ft _ ?_ (by rw [List.getElem?_map, List.getElem?_eq_getElem hil]; rfl)
  rw [List.getElem?_map, show fl.toList[i]? = fl[i]? by simp, hfi]
  simp [hfe.2]
theorem rds_slice {t e : Nat} {s b z} {ti : TI} (ht : C.ty t = some ⟨.slice e, s, b, z⟩) (hti : C.ty e = some ti) (h0 : 0 < ti.size) {α : Type} (f : α → List T) (hf : ∀ a, (f a).length = ti.size) (S : α → Prop) (N : Nat)
    (hN : ∀ n : Nat, n * P.bytesOf e ≤ reachBytes → n ≤ N)
    (he : ∀ fuel cs d p, DataW.trod enc P w 0 spare held fuel e cs = some (d, p) → Wb P e d → ∃ a, Rd w cs (f a) ∧ S a) {fuel : Nat} {cs : List Value} {d : DataW H} {p : List MemPlace} (h : DataW.trod enc P w 0 spare held fuel t cs = some (d, p)) (hw : Wb P t d) :
    ∃ (nl : Bool) (l : List α), Rd w cs [.sl nl ti.size (l.map f)] ∧ l.length ≤ N ∧ ∀ a ∈ l, S a := by
  obtain ⟨dd, h1, h2⟩ := und_ty hC ht
  cases dd <;> simp [descOf] at h2
  subst h2
  rcases Go.Deep.open_slice h1 h with ⟨rfl, _⟩ | ⟨a, len, cap, m, n, D, Pl, rfl, _, hlc, hcm, hm, hxx, hel⟩
  · exact ⟨true, [], .one (.nil _), Nat.zero_le _, fun a ha => by cases ha⟩
  obtain ⟨rfl, _⟩ := Prod.mk.inj hxx
  simp only [Wb, DataW.weights, h1, List.mem_cons, List.mem_append] at hw
  have hlN : len ≤ N := hN len (by
    have := hw _ (.inl rfl)
    rw [List.length_map, List.length_range] at this
    exact Nat.le_trans (Nat.mul_le_mul_right _ (Nat.le_add_right _ _)) this)
  have hwe := wb_all (l := (List.range len).map D) fun n hn => hw n (.inr (.inl hn))
  rw [cellsOf_ty hC hti] at hel
  have hlm : len ≤ m := by rw [hm]; split <;> omega
  obtain ⟨l, hl1, hl2⟩ := build_list (p := fun i a' => ∃ cs', w.cells? 0 (a.add (i * ti.size)) ti.size = some cs' ∧ Rd w cs' (f a') ∧ S a') len fun i hi => by
    obtain ⟨cs', h3, h4⟩ := hel i (by omega)
    obtain ⟨a', ha, ha2⟩ := he _ _ _ _ h4 (hwe _ (List.mem_map.2 ⟨i, List.mem_range.2 hi, rfl⟩))
    exact ⟨a', cs', h3, ha, ha2⟩
  refine ⟨false, l, .one ?_, by rw [hl1]; exact hlN, fun a' ha' => by
    obtain ⟨i, hi⟩ := List.mem_iff_getElem?.1 ha'
    obtain ⟨_, _, _, h⟩ := hl2 i a' hi
    exact h⟩
  cases hl : l with
  | nil =>
    have : len = 0 := by rw [← hl1, hl]; rfl
    subst this
    exact .emp _ _ _ hcm
  | cons a0 r =>
    rw [← hl]
    have hlen : (l.map f).length = len := by simp [hl1]
    have h00 : l[0]? = some a0 := by rw [hl]; rfl
    obtain ⟨c0, hc0, _, _⟩ := hl2 0 a0 h00
    obtain ⟨_, _, hcell0⟩ := World.cells?_some hc0
    have hsome : ∀ i c', w.cells? 0 (a.add (i * ti.size)) ti.size = some c' → ∀ j, j < ti.size → ∃ v, w.cell? ((a.add (i * ti.size)).add j) = some v ∧ c'[j]? = some v := by
      intro i c' hc j hj
      obtain ⟨_, hcl, hcc⟩ := World.cells?_some hc
      have := hcc j hj
      rw [List.getElem?_eq_getElem (by omega)] at this
      exact ⟨_, this, List.getElem?_eq_getElem (by omega)⟩
    obtain ⟨v00, hv00, _⟩ := hsome 0 c0 hc0 0 h0
    have hspot : a.spot = none := by
      simp only [Nat.zero_mul] at hv00
      have e : (a.add 0).add 0 = a := by simp [Addr.add]
      rw [e] at hv00
      unfold World.cell? at hv00
      split at hv00
      · split at hv00
        · cases hv00
        · rename_i hs; simpa using hs
      · cases hv00
    obtain ⟨ab, ao, asp⟩ := a
    simp only at hspot
    subst hspot
    have hadd : ∀ i j, ((⟨ab, ao, none⟩ : Addr).add i).add j = ⟨ab, ao + (i + j), none⟩ := by
      intro i j
      unfold Addr.add
      by_cases hi : i = 0 <;> by_cases hj : j = 0 <;> simp [hi, hj, Nat.add_assoc]
    have hblk : ab < w.heap.size := by
      rw [hadd] at hv00
      unfold World.cell? at hv00
      cases hb : w.heap[ab]? with
      | none => simp [hb] at hv00
      | some o => exact (Array.getElem?_eq_some_iff.1 hb).1
    have hmain : ∀ (i : Nat) (el : List T) (j : Nat) (x : T), (l.map f)[i]? = some el → el[j]? = some x → ∃ v, w.cell? ⟨ab, ao + (i * ti.size + j), none⟩ = some v ∧ VT (oldB w) w x v := by
      intro i el j x hi hj
      rw [List.getElem?_map] at hi
      cases hli : l[i]? with
      | none => simp [hli] at hi
      | some a' =>
        simp [hli] at hi
        subst hi
        obtain ⟨cs', hc, hrd, _⟩ := hl2 i a' hli
        have hjl : j < ti.size := by have := (List.getElem?_eq_some_iff.1 hj).1; rw [hf] at this; exact this
        obtain ⟨v, hv1, hv2⟩ := hsome i cs' hc j hjl
        rw [hadd] at hv1
        exact ⟨v, hv1, hrd.2 j x v hj hv2⟩
    rw [← hlen] at hlc ⊢
    refine .sl _ _ ab ao cap (fun i j => (w.cell? ⟨ab, ao + (i * ti.size + j), none⟩).getD (.bool false)) hblk hlc hcm (fun i el hi => ?_) (fun i el j x hi hj => ?_) fun i el j x hi hj => ?_
    · rw [List.getElem?_map] at hi
      cases hli : l[i]? with
      | none => simp [hli] at hi
      | some a' => simp [hli] at hi; rw [← hi]; exact hf a'
    · obtain ⟨v, h3, _⟩ := hmain i el j x hi hj
      rw [h3]; rfl
    · obtain ⟨v, h3, h4⟩ := hmain i el j x hi hj
      rw [h3]; exact h4
end

section
variable {H : Type} {enc : TypeId × Value → H} {w : World} {spare : Nat → Bool} {held : Bool}
theorem bnd {b k N n : Nat} (h : b = k) (hk : 0 < k) (hN : reachBytes / k = N) (hn : n * b ≤ reachBytes) : n ≤ N := by
  subst h; subst hN; exact (Nat.le_div_iff_mul_le hk).2 hn
theorem rds_lits {fuel : Nat} {cs : List Value} {d : DataW H} {p : List MemPlace} (h : DataW.trod enc Try.prog w 0 spare held fuel 24 cs = some (d, p)) (hw : Wb Try.prog 24 d) : ∃ (nl : Bool) (l : List Lit), Rd w cs [.sl nl 2 (l.map tLit)] ∧ l.length ≤ 8796093021952 := by
  obtain ⟨nl, l, h1, h2, _⟩ := rds_slice cx_ok (t := 24) (e := 51) rfl rfl (by decide) tLit (fun _ => rfl) (fun _ => True) 8796093021952 (fun _ hn => bnd (k := 16) (by kernel_rfl) (by decide) (by decide) hn) (fun _ _ _ _ h _ => by obtain ⟨a, ha⟩ := rd_lit h; exact ⟨a, ha, trivial⟩) h hw
  exact ⟨nl, l, h1, h2⟩
theorem rds_ints {fuel : Nat} {cs : List Value} {d : DataW H} {p : List MemPlace} (h : DataW.trod enc Try.prog w 0 spare held fuel 23 cs = some (d, p)) (hw : Wb Try.prog 23 d) : ∃ (nl : Bool) (l : List Int), Rd w cs [.sl nl 1 (l.map tI)] ∧ l.length ≤ 17592186043904 := by
  obtain ⟨nl, l, h1, h2, _⟩ := rds_slice cx_ok (t := 23) (e := 3) rfl rfl (by decide) tI (fun _ => rfl) (fun _ => True) 17592186043904 (fun _ hn => bnd (k := 8) (by kernel_rfl) (by decide) (by decide) hn) (fun _ _ _ _ h _ => by obtain ⟨a, ha⟩ := rd_int cx_ok (t := 3) rfl h; exact ⟨a, ha, trivial⟩) h hw
  exact ⟨nl, l, h1, h2⟩
theorem rds_strs {fuel : Nat} {cs : List Value} {d : DataW H} {p : List MemPlace} (h : DataW.trod enc Try.prog w 0 spare held fuel 22 cs = some (d, p)) (hw : Wb Try.prog 22 d) : ∃ (nl : Bool) (l : List ByteArray), Rd w cs [.sl nl 1 (l.map tS)] ∧ l.length ≤ 8796093021952 := by
  obtain ⟨nl, l, h1, h2, _⟩ := rds_slice cx_ok (t := 22) (e := 9) rfl rfl (by decide) tS (fun _ => rfl) (fun _ => True) 8796093021952 (fun _ hn => bnd (k := 16) (by kernel_rfl) (by decide) (by decide) hn) (fun _ _ _ _ h _ => by obtain ⟨a, ha⟩ := rd_str cx_ok (t := 9) rfl h; exact ⟨a, ha, trivial⟩) h hw
  exact ⟨nl, l, h1, h2⟩
theorem rds_eff {fuel : Nat} {cs : List Value} {d : DataW H} {p : List MemPlace} (h : DataW.trod enc Try.prog w 0 spare held fuel 56 cs = some (d, p)) (hw : Wb Try.prog 56 d) : ∃ e : Eff, Rd w cs (tEff e) ∧ e.when_.length ≤ 8796093021952 := by
  obtain ⟨hl, hf⟩ := rds_struct cx_ok (t := 56) rfl h hw
  obtain ⟨n0, d0, p0, h0, w0⟩ := hf 0 24 _ (by decide) rfl
  obtain ⟨n1, d1, p1, h1, _⟩ := hf 1 51 _ (by decide) rfl
  obtain ⟨nl, a, ha, ha2⟩ := rds_lits h0 w0
  obtain ⟨b, hb⟩ := rd_lit h1
  refine ⟨⟨nl, a, b⟩, ⟨hl, fun i x v hx hv => ?_⟩, ha2⟩
  match i with
  | 0 => exact ha.part 0 x v hx hv
  | 1 => exact hb.part 0 x v hx hv
  | 2 => exact hb.part 1 x v hx hv
  | i + 3 => simp [tEff] at hx
theorem rds_act {fuel : Nat} {cs : List Value} {d : DataW H} {p : List MemPlace} (h : DataW.trod enc Try.prog w 0 spare held fuel 59 cs = some (d, p)) (hw : Wb Try.prog 59 d) : ∃ e : Actn, Rd w cs (tAct e) ∧ e.pre.length ≤ 8796093021952 ∧ e.effs.length ≤ 3518437208780 ∧ ∀ x ∈ e.effs, x.when_.length ≤ 8796093021952 := by
  obtain ⟨hl, hf⟩ := rds_struct cx_ok (t := 59) rfl h hw
  obtain ⟨n0, d0, p0, h0, _⟩ := hf 0 9 _ (by decide) rfl
  obtain ⟨n1, d1, p1, h1, _⟩ := hf 1 3 _ (by decide) rfl
  obtain ⟨n2, d2, p2, h2, w2⟩ := hf 2 24 _ (by decide) rfl
  obtain ⟨n3, d3, p3, h3, w3⟩ := hf 3 57 _ (by decide) rfl
  obtain ⟨a, ha⟩ := rd_str cx_ok (t := 9) rfl h0
  obtain ⟨b, hb⟩ := rd_int cx_ok (t := 3) rfl h1
  obtain ⟨nc, c, hc, hc2⟩ := rds_lits h2 w2
  obtain ⟨nd, dd, hd, hd2, hd3⟩ := rds_slice cx_ok (t := 57) (e := 56) rfl rfl (by decide) tEff (fun _ => rfl) (fun e => e.when_.length ≤ 8796093021952) 3518437208780 (fun _ hn => bnd (k := 40) (by kernel_rfl) (by decide) (by decide) hn) (fun _ _ _ _ h hw => rds_eff h hw) h3 w3
  refine ⟨⟨a, b, nc, c, nd, dd⟩, ⟨hl, fun i x v hx hv => ?_⟩, hc2, hd2, hd3⟩
  match i with
  | 0 => exact ha.part 0 x v hx hv
  | 1 => exact hb.part 0 x v hx hv
  | 2 => exact hc.part 0 x v hx hv
  | 3 => exact hd.part 0 x v hx hv
  | i + 4 => simp [tAct] at hx
theorem rds_task {fuel : Nat} {cs : List Value} {d : DataW H} {p : List MemPlace} (h : DataW.trod enc Try.prog w 0 spare held fuel 27 cs = some (d, p)) (hw : Wb Try.prog 27 d) : ∃ t : Task, Rd w cs (tTask t) ∧ TaskS t := by
  obtain ⟨hl, hf⟩ := rds_struct cx_ok (t := 27) rfl h hw
  obtain ⟨n0, d0, p0, h0, w0⟩ := hf 0 22 _ (by decide) rfl
  obtain ⟨n1, d1, p1, h1, w1⟩ := hf 1 23 _ (by decide) rfl
  obtain ⟨n2, d2, p2, h2, w2⟩ := hf 2 24 _ (by decide) rfl
  obtain ⟨n3, d3, p3, h3, w3⟩ := hf 3 25 _ (by decide) rfl
  obtain ⟨na, a, ha, ha2⟩ := rds_strs h0 w0
  obtain ⟨nb, b, hb, hb2⟩ := rds_ints h1 w1
  obtain ⟨nc, c, hc, hc2⟩ := rds_lits h2 w2
  obtain ⟨nd, dd, hd, hd2, hd3⟩ := rds_slice cx_ok (t := 25) (e := 59) rfl rfl (by decide) tAct (fun _ => rfl) (fun e => e.pre.length ≤ 8796093021952 ∧ e.effs.length ≤ 3518437208780 ∧ ∀ x ∈ e.effs, x.when_.length ≤ 8796093021952) 1954687338211 (fun _ hn => bnd (k := 72) (by kernel_rfl) (by decide) (by decide) hn) (fun _ _ _ _ h hw => rds_act h hw) h3 w3
  refine ⟨⟨na, a, nb, b, nc, c, nd, dd⟩, ⟨hl, fun i x v hx hv => ?_⟩, ⟨ha2, hb2, hc2, hd2, fun a ha => (hd3 a ha).1, fun a ha => (hd3 a ha).2.1, fun a ha => (hd3 a ha).2.2⟩⟩
  match i with
  | 0 => exact ha.part 0 x v hx hv
  | 1 => exact hb.part 0 x v hx hv
  | 2 => exact hc.part 0 x v hx hv
  | 3 => exact hd.part 0 x v hx hv
  | i + 4 => simp [tTask] at hx
/-- Nothing that an argument holds is too large. -/
theorem wb_arg {P : Program} {ts : List TypeId} {ds : List (DataW H)} (hs : (DataW.weightsEach P ts ds).all (· ≤ reachBytes) = true) {j : Nat} {t : TypeId} {d : DataW H} (h1 : ts[j]? = some t) (h2 : ds[j]? = some d) : Wb P t d :=
  wb_each (fun n hn => by simpa using List.all_eq_true.1 hs n hn) j t d h1 h2
end

end Go.Fw

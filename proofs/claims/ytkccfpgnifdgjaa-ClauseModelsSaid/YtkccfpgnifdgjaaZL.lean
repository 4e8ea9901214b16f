/- Texts that lead to the law, part 12. -/
import Derived.Test.YtkccfpgnifdgjaaZK

/- Small functions: lengths, equal lists, effects. -/
namespace Go.Fw
open Go Go.Proofs
set_option maxRecDepth 10000

/-- The error of a task and a length. -/
def lenI (t : Task) (n : Int) : Int := if isB t = true then (if n < 0 ∨ 20 < n then 1 else 0) else 10
theorem f24_spec (t : Task) (n : Int) (out : List Fr) : SpecP Try.prog 24 [.task t, .int n] out fun r ro => r = .int (lenI t n) ∧ ro = [] := by
  refine spec_body cx_ok [] [] (fn := Try.f24) (by kernel_rfl) rfl (by kernel_rfl) rfl (by unfold FnOK; kernel_rfl) fun hok => ?_
  refine SpecP.mono (f19_spec t []) ?_
  rintro _ _ ⟨rfl, rfl⟩
  refine And.intro (fun h1 => ?_) fun h1 => ?_
  rotate_left
  · exact Exists.intro [] ⟨by rw [lenI, h1]; rfl, rfl⟩
  refine And.intro (fun h2 => ?_) fun h2 => ?_
  · have h2 := of_decide_eq_true h2
    exact Exists.intro [] ⟨by rw [lenI, if_pos h1, if_pos (.inl h2)]; rfl, rfl⟩
  have h2 := of_decide_eq_false h2
  refine And.intro (fun h3 => ?_) fun h3 => ?_
  · have h3 := of_decide_eq_true h3
    exact Exists.intro [] ⟨by rw [lenI, if_pos h1, if_pos (.inr h3)]; rfl, rfl⟩
  have h3 := of_decide_eq_false h3
  exact Exists.intro [] ⟨by rw [lenI, if_pos h1, if_neg (by omega)]; rfl, rfl⟩
theorem f45_spec (t : Task) (n : Int) (out : List Fr) : SpecP Try.prog 45 [.task t, .int n] out fun r ro => r = .int (lenI t n) ∧ ro = [] := by
  refine spec_body cx_ok [] [] (fn := Try.f45) (by kernel_rfl) rfl (by kernel_rfl) rfl (by unfold FnOK; kernel_rfl) fun hok => ?_
  refine SpecP.mono (f39_spec t []) ?_
  rintro _ _ ⟨rfl, rfl⟩
  refine And.intro (fun h1 => ?_) fun h1 => ?_
  rotate_left
  · exact Exists.intro [] ⟨by rw [lenI, h1]; rfl, rfl⟩
  refine And.intro (fun h2 => ?_) fun h2 => ?_
  · have h2 := of_decide_eq_true h2
    exact Exists.intro [] ⟨by rw [lenI, if_pos h1, if_pos (.inl h2)]; rfl, rfl⟩
  have h2 := of_decide_eq_false h2
  refine And.intro (fun h3 => ?_) fun h3 => ?_
  · have h3 := of_decide_eq_true h3
    exact Exists.intro [] ⟨by rw [lenI, if_pos h1, if_pos (.inr h3)]; rfl, rfl⟩
  have h3 := of_decide_eq_false h3
  exact Exists.intro [] ⟨by rw [lenI, if_pos h1, if_neg (by omega)]; rfl, rfl⟩

theorem eqL_iff {a b : List Bool} (hl : a.length = b.length) : (a == b) = (List.range a.length).all fun i => a.getD i false == b.getD i false := by
  rw [Bool.eq_iff_iff, beq_iff_eq, List.all_eq_true]
  constructor
  · rintro rfl i _; simp
  · intro h
    refine List.ext_getElem hl fun i h1 h2 => ?_
    have := h i (List.mem_range.2 h1)
    rw [beq_iff_eq, List.getD_eq_getElem?_getD, List.getD_eq_getElem?_getD, List.getElem?_eq_getElem h1, List.getElem?_eq_getElem h2] at this
    exact this
theorem rall_step {p : Nat → Bool} {i : Nat} (h : (List.range i).all p = true) (h2 : p i = true) : (List.range (i + 1)).all p = true := by
  rw [List.range_succ, List.all_append, h]; simp [h2]
theorem rall_false {p : Nat → Bool} {i n : Nat} (hi : i < n) (h : p i = false) : (List.range n).all p = false := by
  cases hh : (List.range n).all p with
  | false => rfl
  | true => rw [List.all_eq_true.1 hh i (List.mem_range.2 hi)] at h; cases h
theorem getD_lt {a : List Bool} {i : Nat} (h : i < a.length) : a.getD i false = a[i] := by rw [List.getD_eq_getElem?_getD, List.getElem?_eq_getElem h]; rfl

def od47 : Od := [(6, [(0, .pure), (1, .pure), (2, .pure), (3, .pure), (4, .pure), (5, .pure), (6, .pure), (7, .pure), (8, .pure)])]
def kq47 : Kp := [(4, ([0, 1, 12, 13], []))]
theorem f47_spec (n1 n2 : Bool) (a b : List Bool) (out : List Fr) : SpecP Try.prog 47 [.bools n1 a, .bools n2 b] out fun r ro => r = .bool (a == b) ∧ ro = [] := by
  refine spec_body cx_ok kq47 od47 (fn := Try.f47) (by kernel_rfl) rfl (by kernel_rfl) rfl (by unfold FnOK; kernel_rfl) fun hok => ?_
  have hmx := le_max hok.1.1
  have ea : (a.map tB).length = a.length := List.length_map ..
  have eb : (b.map tB).length = b.length := List.length_map ..
  refine And.intro (fun h1 => ?_) fun h1 => ?_
  · refine Exists.intro [] (ret_bool ?_ rfl)
    have h1 : ¬ ((a.map tB).length : Int) = ((b.map tB).length : Int) := by simpa using h1
    cases hh : a == b with
    | false => rfl
    | true => rw [beq_iff_eq] at hh; subst hh; exact absurd rfl h1
  have h1 : ((a.map tB).length : Int) = ((b.map tB).length : Int) := by simpa using h1
  have hl : a.length = b.length := by omega
  rw [eqL_iff hl]
  refine LoopW.mk Nat (fun i => i ≤ a.length ∧ ((List.range i).all fun i => a.getD i false == b.getD i false) = true) (fun i => [(0, .bools n1 a), (1, .bools n2 b), (12, .int (a.map tB).length), (13, .int i)]) (fun _ => ⟨out, []⟩) (fun i => a.length - i) 0 ⟨Nat.zero_le _, rfl⟩ ⟨rfl, rfl⟩ fun i hI => ?_
  refine And.intro (fun h2 => ?_) fun h2 => ?_
  · have hi := lt_of_dec h2
    have hib : i < b.length := hl ▸ hi
    refine And.intro (by omega) (Exists.intro _ (And.intro (get_map hi) ?_))
    refine And.intro (fun ha => ?_) fun ha => ?_
    all_goals
      refine And.intro (by omega) (Exists.intro _ (And.intro (get_map hib) ?_))
      refine And.intro (fun hb => ?_) fun hb => ?_
      all_goals
        refine And.intro (fun h3 => ?_) fun h3 => ?_
        · exact Exists.intro [] (ret_bool (rall_false hi (by rw [getD_lt hi, getD_lt hib, ha, hb]; revert h3; decide)) rfl)
        · refine And.intro (by omega) (And.intro (by omega) ?_)
          exact Exists.intro (i + 1) (And.intro (by show a.length - (i + 1) < a.length - i; omega) (And.intro ⟨hi, rall_step hI.2 (by rw [getD_lt hi, getD_lt hib, ha, hb]; revert h3; decide)⟩ (And.intro rfl rfl)))
  · have hi : i = a.length := by have := hI.1; have := ge_of_dec h2; omega
    exact Exists.intro [] (ret_bool (by have := hI.2; rw [hi] at this; exact this) rfl)
def kq22 : Kp := [(4, ([1, 12, 13, 14], []))]
theorem f22_spec (n1 n2 : Bool) (a b : List Bool) (out : List Fr) : SpecP Try.prog 22 [.bools n1 a, .bools n2 b] out fun r ro => r = .bool (a == b) ∧ ro = [] := by
  refine spec_body cx_ok kq22 [] (fn := Try.f22) (by kernel_rfl) rfl (by kernel_rfl) rfl (by unfold FnOK; kernel_rfl) fun hok => ?_
  have hmx := le_max hok.1.1
  have ea : (a.map tB).length = a.length := List.length_map ..
  have eb : (b.map tB).length = b.length := List.length_map ..
  refine And.intro (fun h1 => ?_) fun h1 => ?_
  · refine Exists.intro [] (ret_bool ?_ rfl)
    have h1 : ¬ ((a.map tB).length : Int) = ((b.map tB).length : Int) := by simpa using h1
    cases hh : a == b with
    | false => rfl
    | true => rw [beq_iff_eq] at hh; subst hh; exact absurd rfl h1
  have h1 : ((a.map tB).length : Int) = ((b.map tB).length : Int) := by simpa using h1
  have hl : a.length = b.length := by omega
  rw [eqL_iff hl]
  refine LoopW.mk Nat (fun i => i ≤ a.length ∧ ((List.range i).all fun i => a.getD i false == b.getD i false) = true) (fun i => [(1, .bools n2 b), (12, .bools n1 a), (13, .int (a.map tB).length), (14, .int i)]) (fun _ => ⟨out, []⟩) (fun i => a.length - i) 0 ⟨Nat.zero_le _, rfl⟩ ⟨rfl, rfl⟩ fun i hI => ?_
  refine And.intro (fun h2 => ?_) fun h2 => ?_
  · have hi := lt_of_dec h2
    have hib : i < b.length := hl ▸ hi
    refine And.intro (by omega) (Exists.intro _ (And.intro (get_map hi) ?_))
    refine And.intro (fun ha => ?_) fun ha => ?_
    all_goals
      refine And.intro (by omega) (Exists.intro _ (And.intro (get_map hib) ?_))
      refine And.intro (fun hb => ?_) fun hb => ?_
      all_goals
        refine And.intro (fun h3 => ?_) fun h3 => ?_
        · exact Exists.intro [] (ret_bool (rall_false hi (by rw [getD_lt hi, getD_lt hib, ha, hb]; revert h3; decide)) rfl)
        · refine And.intro (by omega) (And.intro (by omega) ?_)
          exact Exists.intro (i + 1) (And.intro (by show a.length - (i + 1) < a.length - i; omega) (And.intro ⟨hi, rall_step hI.2 (by rw [getD_lt hi, getD_lt hib, ha, hb]; revert h3; decide)⟩ (And.intro rfl rfl)))
  · have hi : i = a.length := by have := hI.1; have := ge_of_dec h2; omega
    exact Exists.intro [] (ret_bool (by have := hI.2; rw [hi] at this; exact this) rfl)

/-! ### Effects -/
def effsTo (t : Task) (k : Nat) : List Eff := (t.acts.take k).flatMap (·.effs)
theorem effsTo_step {t : Task} {k : Nat} (h : k < t.acts.length) : effsTo t (k + 1) = effsTo t k ++ t.acts[k].effs := by
  rw [effsTo, List.take_add_one, List.getElem?_eq_getElem h, Option.toList_some, List.flatMap_append]; simp [effsTo]
theorem effsTo_len (t : Task) (k : Nat) : (effsTo t k).length = bef t k := rfl
def kq54 : Kp := [(3, ([3, 7, 8, 9], [128]))]
set_option maxHeartbeats 2000000 in
theorem f54_spec (t : Task) (TK : TaskOK t) (out : List Fr) : SpecP Try.prog 54 [.task t] out fun r ro => r = .t (.sl ((effsOf t).map tEff).isEmpty 3 ((effsOf t).map tEff)) ∧ ro = [] := by
  refine SpecP.close (Post := fun r ro => r = accV 128 3 ((effsOf t).map tEff) ∧ ro = accO 128 87 3 ((effsOf t).map tEff)) ?_ ?_
  rotate_left
  · rintro r ro ⟨rfl, rfl⟩
    exact ⟨_, acc_cls (e := 87) fun x r h => by rw [h]; exact look_cons .. |>.trans (if_pos rfl), rfl, rfl⟩
  have hA := TK.acts
  have hE := effs_le TK
  refine spec_body cx_ok kq54 [] (fn := Try.f54) (by kernel_rfl) rfl (by kernel_rfl) rfl (by unfold FnOK; kernel_rfl) fun hok => ?_
  refine LoopW.mk (Nat × List Eff) (fun u => u.1 ≤ t.acts.length ∧ u.2 = effsTo t u.1) (fun u => [(3, accV 128 3 (u.2.map tEff)), (7, .t (.sl t.an 4 (t.acts.map tAct))), (8, .int (t.acts.map tAct).length), (9, .int u.1)])
    (fun u => ⟨out, accO 128 87 3 (u.2.map tEff)⟩) (fun u => t.acts.length - u.1) (0, []) ⟨Nat.zero_le _, rfl⟩ ⟨rfl, rfl⟩ ?_
  rintro ⟨i, L⟩ ⟨hi0, hL⟩
  simp only at hi0 hL
  have hLl : L.length ≤ 100000 := by rw [hL, effsTo_len]; have := bef_mono (t := t) (a := i) (b := t.acts.length) hi0 (Nat.le_refl _); rw [bef_all] at this; omega
  cases L
  case' nil => let O : List Eff := []
  case' cons y r => let O : List Eff := y :: r
  all_goals
    refine And.intro (fun h1 => ?_) fun h1 => ?_
    rotate_left
    · have hi : i = t.acts.length := by have := ge_of_dec h1; have : i ≤ t.acts.length := hi0; omega
      have hL' : O = effsOf t := by show O = _; rw [show O = effsTo t i from hL, hi, effsTo, List.take_length]; rfl
      rw [← hL']
      exact Exists.intro [128] ⟨rfl, rfl⟩
    have hi : i < t.acts.length := lt_of_dec h1
    have hEi := TK.effs _ (List.getElem_mem hi)
    have stp := effsTo_step hi
    rw [← hL] at stp
    refine And.intro (by show (0 : Int) ≤ (i : Int); omega) (Exists.intro _ (And.intro (get_map hi) ?_))
    have hl4 : (O.map tEff ++ t.acts[i].effs.map tEff).length ≤ 1000000 := by
      rw [List.length_append, List.length_map, List.length_map]; have : O.length ≤ 100000 := hLl; omega
    generalize t.acts[i] = A at hEi stp hl4 ⊢
    obtain ⟨nm, co, pn, pre, en, efs⟩ := A
    simp only at hEi stp hl4
    first
      | (refine And.intro rfl (And.intro (by show (O.map tEff ++ efs.map tEff).length * 40 ≤ _; omega) (And.intro (by show (O.map tEff ++ efs.map tEff).length ≤ _; omega) ?_))
         refine And.intro (by first | omega | (dsimp only; omega)) (And.intro (by first | omega | (dsimp only; omega)) ?_)
         refine Exists.intro (i + 1, y :: (r ++ efs)) (And.intro (by show t.acts.length - (i + 1) < t.acts.length - i; omega) (And.intro ⟨hi, stp.symm⟩ ?_))
         have e : (r ++ efs).map tEff = r.map tEff ++ efs.map tEff := by simp
         simp only [List.map_cons, e]
         exact And.intro rfl rfl)
      | (cases efs with
         | nil =>
           refine And.intro (by first | omega | (dsimp only; omega)) (And.intro (by first | omega | (dsimp only; omega)) ?_)
           exact Exists.intro (i + 1, []) (And.intro (by show t.acts.length - (i + 1) < t.acts.length - i; omega) (And.intro ⟨hi, stp.symm⟩ (And.intro rfl rfl)))
         | cons z l =>
           have hl5 : (tEff z :: l.map tEff).length ≤ 1000000 := hl4
           refine And.intro (by show (tEff z :: l.map tEff).length * 40 ≤ _; omega) (And.intro (by show (tEff z :: l.map tEff).length ≤ _; omega) ?_)
           refine And.intro (by first | omega | (dsimp only; omega)) (And.intro (by first | omega | (dsimp only; omega)) ?_)
           exact Exists.intro (i + 1, z :: l) (And.intro (by show t.acts.length - (i + 1) < t.acts.length - i; omega) (And.intro ⟨hi, stp.symm⟩ (And.intro rfl rfl))))

/-! ### How many variables -/
def oq21 : Od := [(1, [(0, .tree (.pure 0 (.pure 1 (.pure 2 (.pure 3 (.pure 4 (.pure 5 (.pure 6 (.pure 7 (.pure 8 (.pure 13 (.pure 14 (.pure 15 (.last 9 (.pure 10 (.pure 11 (.pure 12 (.pure 16 (.pure 17 .done))))) [0, 1, 2, 3, 4, 5, 6, 7, 13, 14, 15]))))))))))))))])]
theorem f21_spec (t : Task) (n : Nat) (TK : TaskOK t) (hn : n ≤ 1000) (out : List Fr) : SpecP Try.prog 21 [.task t, .int n] out fun r ro => r = .int ((n * wdt t + t.facts.length : Nat) : Int) ∧ ro = [] := by
  have hF := TK.facts
  have hA := TK.acts
  have hE := effs_le TK
  refine spec_body cx_ok [] oq21 (fn := Try.f21) (by kernel_rfl) rfl (by kernel_rfl) rfl (by unfold FnOK; kernel_rfl) fun hok => ?_
  have e1 : (t.facts.map tS).length = t.facts.length := List.length_map ..
  have e2 : (t.acts.map tAct).length = t.acts.length := List.length_map ..
  have e3 : ((effsOf t).map tEff).length = (effsOf t).length := List.length_map ..
  have hm : n * wdt t ≤ 1000 * 200000 := Nat.mul_le_mul hn (by unfold wdt; omega)
  refine And.intro (by omega) (And.intro (by omega) ?_)
  refine SpecP.mono (f54_spec t TK []) ?_
  rintro _ _ ⟨rfl, rfl⟩
  have hw : (n : Int) * ((t.facts.map tS).length + (t.acts.map tAct).length + ((effsOf t).map tEff).length) = ((n * wdt t : Nat) : Int) := by
    rw [Int.natCast_mul]; congr 1; unfold wdt; omega
  iterate 7 refine And.intro rfl ?_
  refine And.intro (by omega) (And.intro (by omega) ?_)
  iterate 4 refine And.intro rfl ?_
  refine And.intro (by omega) (And.intro (by omega) ?_)
  refine And.intro (by rw [hw]; omega) (And.intro (by rw [hw]; omega) (And.intro (by rw [hw]; omega) (And.intro (by rw [hw]; omega) ?_)))
  refine Exists.intro [] ⟨?_, rfl⟩
  have : ((n * wdt t + t.facts.length : Nat) : Int) = (n : Int) * ((t.facts.map tS).length + (t.acts.map tAct).length + ((effsOf t).map tEff).length) + ((t.facts.map tS).length : Int) := by rw [hw, e1, Int.natCast_add]
  rw [this]; rfl
end Go.Fw

/- The program's Model. -/
namespace Go.Fw
open Go Go.Proofs
set_option maxRecDepth 10000

theorem f44c_spec (t : Task) (n2 : Bool) (p : List Int) (ht : isB t = true) (hp : planB t p = true) (hn : p.length ≤ 100) (out : List Fr) : SpecP Try.prog 44 [.task t, .ints n2 p] out fun r ro =>
    ((¬ Valid t t.init p ∧ r = .tup [.t (.sl true 0 []), .bool false]) ∨ (Valid t t.init p ∧ r = .tup [.bools false (modelOf t p), .bool true])) ∧ ro = [] :=
  (f44_spec t n2 p ht hp hn out).close fun r ro h => by
    rcases h with ⟨h1, rfl, rfl⟩ | ⟨h1, rfl, rfl⟩
    · exact ⟨_, .pair _ _ _ _ (.same _) (.same _), .inl ⟨h1, rfl⟩, rfl⟩
    · refine ⟨_, .pair _ _ _ _ (.row 272 4 1 0 _ _ rfl (by rw [List.length_map, modelOf_len]; omega)) (.same _), .inr ⟨h1, ?_⟩, rfl⟩
      rw [List.drop_zero, List.take_of_length_le (by rw [List.length_map, modelOf_len]; exact Nat.le_refl _)]; rfl

/-- What Model answers. -/
inductive Modeled (t : Task) (p : List Int) : LV → Prop
  | task (h : isB t = false) : Modeled t p (.tup [.t (.sl true 0 []), .int 10])
  | none (h : isB t = true) (h2 : ¬ (p.length ≤ 20 ∧ Valid t t.init p)) : Modeled t p (.tup [.t (.sl true 0 []), .int 4])
  | large (h : isB t = true) (h1 : p.length ≤ 20) (h2 : Valid t t.init p) (h3 : 5000 < p.length * wdt t + t.facts.length) : Modeled t p (.tup [.t (.sl true 0 []), .int 2])
  | ok (h : isB t = true) (h1 : p.length ≤ 20) (h2 : Valid t t.init p) (h3 : p.length * wdt t + t.facts.length ≤ 5000) : Modeled t p (.tup [.bools false (modelOf t p), .int 0])
set_option maxHeartbeats 2000000 in
theorem f17_spec (t : Task) (n2 : Bool) (p : List Int) (out : List Fr) : SpecP Try.prog 17 [.task t, .ints n2 p] out fun r ro => Modeled t p r ∧ ro = [] := by
  refine spec_body cx_ok [] [] (fn := Try.f17) (by kernel_rfl) rfl (by kernel_rfl) rfl (by unfold FnOK; kernel_rfl) fun hok => ?_
  have e0 : (p.map tI).length = p.length := List.length_map ..
  refine SpecP.mono (f39_spec t []) ?_
  rintro _ _ ⟨rfl, rfl⟩
  refine And.intro (fun ht => ?_) fun ht => ?_
  rotate_left
  · exact Exists.intro [] ⟨.task ht, rfl⟩
  refine And.intro (fun h2 => ?_) fun h2 => ?_
  · have h2 := of_decide_eq_true h2
    exact Exists.intro [] ⟨.none ht (by omega), rfl⟩
  have h2 := of_decide_eq_false h2
  refine SpecP.mono (f40_spec t n2 p []) ?_
  rintro _ _ ⟨rfl, rfl⟩
  refine And.intro (fun hp => ?_) fun hp => ?_
  rotate_left
  · exact Exists.intro [] ⟨.none ht (fun h => by rw [h.2.plan] at hp; cases hp), rfl⟩
  have TK := task_ok ht
  have hF := TK.facts
  have hA := TK.acts
  have hE := effs_le TK
  have hwd : wdt t ≤ 200000 := by unfold wdt; omega
  have hnw : p.length * wdt t ≤ 100 * 200000 := Nat.mul_le_mul (by omega) hwd
  refine SpecP.mono (f41_spec t t.ni n2 t.init p TK (init_rising ht) hp []) ?_
  rintro _ _ ⟨hc, rfl⟩
  cases hc with
  | no hv =>
    refine And.intro (fun h => Bool.noConfusion h) fun _ => ?_
    exact Exists.intro [] ⟨.none ht (fun h => hv h.2), rfl⟩
  | yes hv =>
    refine And.intro (fun _ => ?_) fun h => Bool.noConfusion h
    have m42 := f42_spec t p.length TK
    have eN : (p.length : Int) * (wdt t : Int) + (t.facts.length : Int) = ((p.length * wdt t + t.facts.length : Nat) : Int) := by rw [Int.natCast_add, Int.natCast_mul]
    cases hB : befL t t.acts.length
    all_goals
      rw [hB] at m42
      refine SpecP.mono (by rw [e0]; exact m42 _) ?_
      rintro _ _ ⟨rfl, rfl⟩
      have m43 := fun (x y : LV) (fr : Fr) h out => f43_spec t p.length (wdt t) x y 281000939 fr h hF ⟨by omega, by omega⟩ ⟨by omega, by omega⟩ out
      rw [eN] at m43
      refine SpecP.mono (m43 _ _ _ rfl _) ?_
      rintro _ _ ⟨rfl, rfl⟩
      refine And.intro trivial (And.intro trivial ?_)
      refine And.intro (fun h3 => ?_) fun h3 => ?_
      · have h3 := of_decide_eq_true h3
        exact Exists.intro [] ⟨.large ht (by omega) hv (by omega), rfl⟩
      have h3 := of_decide_eq_false h3
      refine SpecP.mono (f44c_spec t n2 p ht hp (by omega) []) ?_
      rintro _ _ ⟨⟨h4, _⟩ | ⟨_, rfl⟩, rfl⟩
      · exact absurd hv h4
      refine And.intro (fun _ => ?_) fun h => Bool.noConfusion h
      exact Exists.intro [] ⟨.ok ht (by omega) hv (by omega), rfl⟩
end Go.Fw

/- The program's Plan: the plain law, and the walk. -/
namespace Go.Fw
open Go Go.Proofs
set_option maxRecDepth 10000

def pickF (q : Nat → Bool) (n : Nat) : List Int := ((List.range n).filter q).map Int.ofNat
theorem pickF_step (q : Nat → Bool) (n : Nat) : pickF q (n + 1) = pickF q n ++ if q n = true then [(n : Int)] else [] := by
  rw [pickF, List.range_succ, List.filter_append, List.map_append]
  cases h : q n <;> simp [h, pickF]
theorem pickF_len (q : Nat → Bool) (n : Nat) : (pickF q n).length ≤ n := by
  rw [pickF, List.length_map]; exact Nat.le_trans (List.length_filter_le ..) (by simp)
theorem pickF_mem {q : Nat → Bool} {n : Nat} {x : Int} (h : x ∈ pickF q n) : 0 ≤ x ∧ x < n ∧ q x.toNat = true := by
  obtain ⟨i, hi, rfl⟩ := List.mem_map.1 h
  obtain ⟨h1, h2⟩ := List.mem_filter.1 hi
  have := List.mem_range.1 h1
  exact ⟨Int.natCast_nonneg i, Int.ofNat_lt.2 this, h2⟩
theorem pickF_congr {q q' : Nat → Bool} {n : Nat} (h : ∀ i, i < n → q i = q' i) : pickF q n = pickF q' n := by
  unfold pickF
  rw [List.filter_congr fun i hi => h i (List.mem_range.1 hi)]
theorem pickF_one {n : Nat} {x : Int} (h0 : 0 ≤ x) (h : x < n) : pickF (fun a => (a : Int) == x) n = [x] := by
  induction n with
  | zero => omega
  | succ n ih =>
    rw [pickF_step]
    by_cases hx : x < n
    · rw [ih hx, if_neg (by simp; omega)]; simp
    · have hn : x = n := by omega
      have h1 : pickF (fun a => (a : Int) == x) n = [] := by
        cases hp : pickF (fun a => (a : Int) == x) n with
        | nil => rfl
        | cons y r =>
          have := pickF_mem (q := fun a => (a : Int) == x) (n := n) (x := y) (by rw [hp]; exact List.mem_cons_self ..)
          have h3 := this.2.2
          simp at h3; omega
      rw [h1, if_pos (by simp; omega), hn]; rfl

/-- The list of which this is the model of length n. -/
structure Dec (t : Task) (n : Nat) (m : List Bool) (p : List Int) : Prop where
  len : p.length = n
  val : Valid t t.init p
  mod : modelOf t p = m
/-- The actions that a model says at a time. -/
def selA (t : Task) (m : List Bool) (i k : Nat) : List Int := pickF (fun a => m.getD (i * wdt t + t.facts.length + a) false) k
theorem modL_pre {t : Task} {p : List Int} : ∀ {k i : Nat}, i ≤ k → ∃ R, modL t p k = modL t p i ++ R
  | 0, i, h => by rw [show i = 0 by omega]; exact ⟨[], by simp⟩
  | k + 1, i, h => by
    rcases Nat.lt_or_ge i (k + 1) with h1 | h1
    · obtain ⟨R, hR⟩ := modL_pre (t := t) (p := p) (k := k) (i := i) (by omega)
      exact ⟨R ++ rowL t (stAt t t.init p k) (p.getD k 0), by rw [modL, hR, List.append_assoc]⟩
    · rw [show i = k + 1 by omega]; exact ⟨[], by simp⟩
theorem modelOf_row {t : Task} {p : List Int} {i : Nat} (hi : i < p.length) : ∃ R, modelOf t p = modL t p i ++ (rowL t (stAt t t.init p i) (p.getD i 0) ++ R) := by
  obtain ⟨R, hR⟩ := modL_pre (t := t) (p := p) (k := p.length) (i := i + 1) hi
  exact ⟨R ++ bitsL t.facts.length (stAt t t.init p p.length), by rw [modelOf, hR, modL]; simp⟩
theorem modelOf_act {t : Task} {p : List Int} {i a : Nat} (hi : i < p.length) (ha : a < t.acts.length) : (modelOf t p).getD (i * wdt t + t.facts.length + a) false = ((a : Int) == p.getD i 0) := by
  obtain ⟨R, hR⟩ := modelOf_row (t := t) hi
  have e : modelOf t p = (modL t p i ++ bitsL t.facts.length (stAt t t.init p i)) ++ (actsL t.acts.length (p.getD i 0) ++ (whenL (stAt t t.init p i) (effsOf t) ++ R)) := by rw [hR, rowL]; simp
  rw [e, List.getD_eq_getElem?_getD, List.getElem?_append_right (by rw [List.length_append, modL_len, bitsL_length]; omega), List.length_append, modL_len, bitsL_length,
    show i * wdt t + t.facts.length + a - (i * wdt t + t.facts.length) = a by omega, List.getElem?_append_left (by rw [actsL_len]; exact ha), actsL, List.getElem?_map, List.getElem?_range ha]
  rfl
theorem planB_at {t : Task} {p : List Int} (hp : planB t p = true) {i : Nat} (hi : i < p.length) : 0 ≤ p.getD i 0 ∧ p.getD i 0 < t.acts.length := by
  obtain ⟨k, hk1, hk2, _, _, hk5⟩ := plan_get hp hi
  rw [List.getD_eq_getElem?_getD, List.getElem?_eq_getElem hi, Option.getD_some, hk1]; omega
theorem Dec.sel {t : Task} {n : Nat} {m : List Bool} {p : List Int} (h : Dec t n m p) {i : Nat} (hi : i < n) : selA t m i t.acts.length = [p.getD i 0] := by
  have hp := planB_at h.val.plan (h.len.symm ▸ hi)
  rw [selA, ← pickF_one hp.1 hp.2]
  exact pickF_congr fun a ha => by rw [← h.mod]; exact modelOf_act (h.len.symm ▸ hi) ha
theorem ext_getD {p q : List Int} (hl : p.length = q.length) (h : ∀ i, i < p.length → p.getD i 0 = q.getD i 0) : p = q := by
  refine List.ext_getElem hl fun i h1 h2 => ?_
  have := h i h1
  rwa [List.getD_eq_getElem?_getD, List.getD_eq_getElem?_getD, List.getElem?_eq_getElem h1, List.getElem?_eq_getElem h2] at this
theorem Dec.uniq {t : Task} {n : Nat} {m : List Bool} {p q : List Int} (h : Dec t n m p) (hq : q.length = n) (h2 : ∀ i, i < n → selA t m i t.acts.length = [q.getD i 0]) : p = q := by
  refine ext_getD (h.len.trans hq.symm) fun i hi => ?_
  have h3 := h.sel (h.len ▸ hi)
  rw [h2 i (h.len ▸ hi)] at h3
  simpa using h3.symm
theorem Dec.eq {t : Task} {n : Nat} {m : List Bool} {p q : List Int} (h : Dec t n m p) (h' : Dec t n m q) : p = q := h.uniq h'.len fun _ hi => h'.sel hi

inductive Decoded (t : Task) (n : Int) (m : List Bool) : LV → Prop
  | err (e : Int) (h : lenI t n = e) (he : e ≠ 0) : Decoded t n m (.tup [.t (.sl true 0 []), .int e])
  | none (h : lenI t n = 0) (h2 : ∀ p, ¬ Dec t n.toNat m p) : Decoded t n m (.tup [.t (.sl true 0 []), .int 4])
  | ok (p : List Int) (h : lenI t n = 0) (h2 : Dec t n.toNat m p) : Decoded t n m (.tup [.ints (p.map tI).isEmpty p, .int 0])

theorem lenI_ok {t : Task} {n : Int} (h : lenI t n = 0) : isB t = true ∧ 0 ≤ n ∧ n ≤ 20 := by
  unfold lenI at h
  split at h
  · rename_i ht
    split at h
    · omega
    · exact ⟨ht, by omega, by omega⟩
  · omega
def kq18 : Kp := [(9, ([2, 3, 9, 10, 29, 30], [24, 185000651, 185000771, 400])), (12, ([2, 3, 9, 10, 11, 29, 30, 35, 36], [24, 185000651, 185000771, 400]))]
set_option maxHeartbeats 2000000 in
theorem f18o_spec (t : Task) (n : Int) (n2 : Bool) (m : List Bool) (out : List Fr) : SpecP Try.prog 18 [.task t, .int n, .bools n2 m] out fun r ro =>
    (lenI t n ≠ 0 ∧ r = .tup [.t (.sl true 0 []), .int (lenI t n)] ∧ ro = []) ∨ (lenI t n = 0 ∧ (∀ p, ¬ Dec t n.toNat m p) ∧ r = .tup [.t (.sl true 0 []), .int 4] ∧ ro = []) ∨
    (lenI t n = 0 ∧ ∃ p, Dec t n.toNat m p ∧ r = .tup [accV 400 1 (p.map tI), .int 0] ∧ ro = accO 400 3 1 (p.map tI)) := by
  refine spec_body cx_ok kq18 [] (fn := Try.f18) (by kernel_rfl) rfl (by kernel_rfl) rfl (by unfold FnOK; kernel_rfl) fun hok => ?_
  refine SpecP.mono (f45_spec t n []) ?_
  rintro _ _ ⟨rfl, rfl⟩
  refine And.intro (fun h1 => ?_) fun h1 => ?_
  · exact Exists.intro [] (.inl ⟨by simpa using h1, rfl, rfl⟩)
  have h0 : lenI t n = 0 := by simpa using h1
  obtain ⟨ht, hn0, hn1⟩ := lenI_ok h0
  have TK := task_ok ht
  have hF := TK.facts
  have hA := TK.acts
  have hE := effs_le TK
  have hwd : wdt t ≤ 200000 := by unfold wdt; omega
  obtain ⟨N, rfl⟩ := Int.eq_ofNat_of_zero_le hn0
  have hnw : N * wdt t ≤ 100 * 200000 := Nat.mul_le_mul (by omega) hwd
  have m42 := f42_spec t N TK
  have eN : (N : Int) * (wdt t : Int) + (t.facts.length : Int) = ((N * wdt t + t.facts.length : Nat) : Int) := by rw [Int.natCast_add, Int.natCast_mul]
  have em : (m.map tB).length = m.length := List.length_map ..
  have m43 := fun (x y : LV) (fr : Fr) h out => f43_spec t N (wdt t) x y 185000651 fr h hF ⟨by omega, by omega⟩ ⟨by omega, by omega⟩ out
  rw [eN] at m43
  rw [h0]
  cases hB : befL t t.acts.length
  case' nil => let B : List Int := []
  case' cons y r => let B : List Int := y :: r
  all_goals
    rw [hB] at m42
    refine SpecP.mono (m42 _) ?_
    rintro _ _ ⟨rfl, rfl⟩
    refine SpecP.mono (m43 _ _ _ rfl _) ?_
    rintro _ _ ⟨rfl, rfl⟩
    refine And.intro trivial (And.intro trivial ?_)
    refine And.intro (fun h2 => ?_) fun h2 => ?_
    · have h2 : ¬ ((m.map tB).length : Int) = ((N * wdt t + t.facts.length : Nat) : Int) := by simpa using h2
      refine Exists.intro [] (.inr (.inl ⟨rfl, fun p hd => h2 ?_, rfl, rfl⟩))
      rw [em, ← hd.mod, modelOf_len, hd.len]; rfl
    have h2 : ((m.map tB).length : Int) = ((N * wdt t + t.facts.length : Nat) : Int) := by simpa using h2
    have hml : m.length = N * wdt t + t.facts.length := by omega
    refine LoopW.mk (Nat × List Int) (fun u => u.1 ≤ N ∧ u.2.length = u.1 ∧ ∀ j, j < u.1 → selA t m j t.acts.length = [u.2.getD j 0])
      (fun u => [(2, .bools n2 m), (3, .ptr (.cur 24) 0), (9, .ptr (.cur 185000651) 0), (10, accV 400 1 (u.2.map tI)), (29, .int N), (30, .int u.1)])
      (fun u => ⟨out, (24, .box (cellsTask t)) :: (185000651, .box (coderC t N (wdt t) (accV 185000771 1 (B.map tI)) (.t (.sl true 0 [])))) :: (accO 185000771 3 1 (B.map tI) ++ accO 400 3 1 (u.2.map tI))⟩) (fun u => N - u.1) (0, []) ⟨Nat.zero_le _, rfl, fun j hj => by omega⟩ ⟨rfl, rfl⟩ ?_
    rintro ⟨i, L⟩ ⟨hi0, hLl, hLs⟩
    simp only at hi0 hLl hLs
    cases L
    case' nil => let W : List Int := []
    case' cons y0 r0 => let W : List Int := y0 :: r0
    all_goals
      have hWl : W.length = i := hLl
      refine And.intro (fun h3 => ?_) fun h3 => ?_
      · have hi : i < N := by have := of_decide_eq_true h3; dsimp only at this; omega
        have hiw : i * wdt t + wdt t ≤ N * wdt t := by have := Nat.mul_le_mul_right (wdt t) (show i + 1 ≤ N from hi); rwa [Nat.add_mul, Nat.one_mul] at this
        have eiw : ((i : Int) * (wdt t : Int)) = ((i * wdt t : Nat) : Int) := (Int.natCast_mul ..).symm
        have hwe : wdt t = t.facts.length + t.acts.length + (effsOf t).length := rfl
        refine LoopW.mk (Nat × List Int) (fun u => u.1 ≤ t.acts.length ∧ u.2 = W ++ selA t m i u.1)
          (fun u => [(2, .bools n2 m), (3, .ptr (.cur 24) 0), (9, .ptr (.cur 185000651) 0), (10, accV 400 1 (u.2.map tI)), (11, .int i), (29, .int N), (30, .int i), (35, .int (t.acts.map tAct).length), (36, .int u.1)])
          (fun u => ⟨out, (24, .box (cellsTask t)) :: (185000651, .box (coderC t N (wdt t) (accV 185000771 1 (B.map tI)) (.t (.sl true 0 [])))) :: (accO 185000771 3 1 (B.map tI) ++ accO 400 3 1 (u.2.map tI))⟩) (fun u => t.acts.length - u.1) (0, W) ⟨Nat.zero_le _, by simp [selA, pickF]⟩ ⟨rfl, rfl⟩ ?_
        rintro ⟨a, M⟩ ⟨ha0, hM⟩
        simp only at ha0 hM
        have hMl : M.length ≤ 1000000 := by rw [hM, List.length_append, hLl]; have : (selA t m i a).length ≤ a := pickF_len ..; omega
        cases M
        case' nil => let O : List Int := []
        case' cons y1 r1 => let O : List Int := y1 :: r1
        all_goals
          refine And.intro (fun h4 => ?_) fun h4 => ?_
          · have ha : a < t.acts.length := lt_of_dec h4
            refine SpecP.mono (f46_spec t N (wdt t) _ _ 185000651 _ rfl hF i a ⟨by omega, by omega⟩ ⟨by omega, by omega⟩ ⟨by omega, by omega⟩ _) ?_
            rintro _ _ ⟨rfl, rfl⟩
            rw [eiw]
            refine And.intro trivial (And.intro trivial (And.intro (by omega) (And.intro (by omega) (And.intro (by omega) ?_))))
            have hix : ((i * wdt t : Nat) + (t.facts.length : Int) + 1 + (a : Int) - 1 : Int).toNat = i * wdt t + t.facts.length + a := by omega
            have hia : i * wdt t + t.facts.length + a < m.length := by omega
            refine Exists.intro (tB (m.getD (i * wdt t + t.facts.length + a) false)) (And.intro (by rw [hix, List.getElem?_map, List.getElem?_eq_getElem hia, getD_lt hia]; rfl) ?_)
            have stp : selA t m i (a + 1) = selA t m i a ++ if m.getD (i * wdt t + t.facts.length + a) false = true then [(a : Int)] else [] := pickF_step ..
            refine And.intro (fun h5 => ?_) fun h5 => ?_
            · rw [if_pos h5] at stp
              have stp2 : W ++ selA t m i (a + 1) = O ++ [(a : Int)] := by rw [stp, ← List.append_assoc, ← hM]
              have hl4 : ∀ X : List T, ((O.map tI) ++ [X]).length ≤ 1000000001 := fun X => by
                have : O.length ≤ 1000000 := hMl
                rw [List.length_append, List.length_map, List.length_singleton]; omega
              repeat first
                | refine And.intro (Nat.le_of_ble_eq_true rfl) ?_
                | refine And.intro rfl ?_
                | refine And.intro (Nat.le_trans (Nat.mul_le_mul_right _ (hl4 _)) (Nat.le_of_ble_eq_true rfl)) ?_
                | refine And.intro (Nat.le_trans (hl4 _) (Nat.le_of_ble_eq_true rfl)) ?_
              refine And.intro (by first | omega | (dsimp only; omega)) (And.intro (by first | omega | (dsimp only; omega)) ?_)
              first
                | exact Exists.intro (a + 1, [(a : Int)]) (And.intro (by show t.acts.length - (a + 1) < t.acts.length - a; omega) (And.intro ⟨ha, stp2.symm⟩ (And.intro rfl rfl)))
                | (refine Exists.intro (a + 1, y1 :: (r1 ++ [(a : Int)])) (And.intro (by show t.acts.length - (a + 1) < t.acts.length - a; omega) (And.intro ⟨ha, stp2.symm⟩ ?_))
                   have e : (r1 ++ [(a : Int)]).map tI = r1.map tI ++ [tI (a : Int)] := by simp
                   simp only [List.map_cons, e]
                   exact And.intro rfl rfl)
            rw [if_neg (by rw [h5]; decide), List.append_nil] at stp
            refine And.intro (by first | omega | (dsimp only; omega)) (And.intro (by first | omega | (dsimp only; omega)) ?_)
            exact Exists.intro (a + 1, O) (And.intro (by show t.acts.length - (a + 1) < t.acts.length - a; omega) (And.intro ⟨ha, by rw [stp]; exact hM⟩ (And.intro rfl rfl)))
          have ha : a = t.acts.length := by have := ge_of_dec h4; have : a ≤ t.acts.length := ha0; omega
          subst ha
          have hOl : (O.map tI).length = i + (selA t m i t.acts.length).length := by rw [List.length_map, show O = W ++ selA t m i t.acts.length from hM, List.length_append, hLl]
          refine And.intro (by omega) (And.intro (by omega) ?_)
          refine And.intro (fun h6 => ?_) fun h6 => ?_
          · have h6 : ((O.map tI).length : Int) ≠ (i : Int) + 1 := bne_iff_ne.1 h6
            refine Exists.intro [] (.inr (.inl ⟨rfl, fun p hd => h6 ?_, rfl, rfl⟩))
            have := hd.sel (i := i) hi
            rw [hOl, this, List.length_singleton]; omega
          have h6 : ((O.map tI).length : Int) = (i : Int) + 1 := bne_eq_false_iff_eq.1 h6
          have hOe : (O.map tI).length = O.length := List.length_map ..
          have hs1 : (selA t m i t.acts.length).length = 1 := by omega
          refine And.intro (by omega) (And.intro (by omega) ?_)
          refine Exists.intro (i + 1, O) (And.intro (by show N - (i + 1) < N - i; omega) (And.intro ⟨hi, by dsimp only; omega, fun j hj => ?_⟩ (And.intro rfl rfl)))
          show selA t m j t.acts.length = [O.getD j 0]
          rw [show O = W ++ selA t m i t.acts.length from hM]
          rcases Nat.lt_or_ge j i with h | h
          · rw [hLs j h, List.getD_eq_getElem?_getD, List.getD_eq_getElem?_getD, List.getElem?_append_left (by omega)]
          · have hji : j = i := by dsimp only at hj; omega
            subst hji
            obtain ⟨z, hz⟩ := List.length_eq_one_iff.1 hs1
            rw [hz, List.getD_eq_getElem?_getD, List.getElem?_append_right (by omega), hWl, Nat.sub_self]; rfl
      have hi : i = N := by have := of_decide_eq_false h3; dsimp only at this; omega
      subst hi
      have hpl : planB t W = true := by
        rw [planB, Bool.and_eq_true, decide_eq_true_eq, List.all_eq_true]
        refine ⟨by omega, fun x hx => ?_⟩
        obtain ⟨j, hj, rfl⟩ := List.getElem_of_mem hx
        have h7 := hLs j (by omega)
        rw [List.getD_eq_getElem?_getD, List.getElem?_eq_getElem hj, Option.getD_some] at h7
        have h8 := pickF_mem (x := W[j]) (by unfold selA at h7; rw [h7]; exact List.mem_singleton_self _)
        rw [Bool.and_eq_true, decide_eq_true_eq, decide_eq_true_eq]; exact ⟨h8.1, h8.2.1⟩
      have m44 := fun n2 => f44_spec t n2 W ht hpl (by omega)
      have hlast : ∀ p, Dec t i m p → p = W := fun p hd => hd.uniq hWl hLs
      have eW : (W.map tI).length = W.length := List.length_map ..
      have hnone : ∀ p, ¬ (Valid t t.init W ∧ modelOf t W = m) → ¬ Dec t i m p := fun p hn hd => hn (by have := hlast p hd; subst this; exact ⟨hd.val, hd.mod⟩)
      first
        | (refine Exists.intro (W.map tI) (And.intro take_all (And.intro (by rw [Nat.zero_add]; exact Nat.le_refl _) ?_))
           refine SpecP.mono (m44 false _) ?_)
        | refine SpecP.conv (conv_second fun _ _ _ _ => nil_sz _ _ _ _) (SpecP.mono (m44 true _) ?_)
      rintro _ _ (⟨hv, rfl, rfl⟩ | ⟨hv, rfl, rfl⟩)
      · first
          | refine And.intro ⟨trivial, trivial, trivial⟩ (And.intro trivial ?_)
          | skip
        refine And.intro (fun h => Bool.noConfusion h) fun _ => ?_
        exact Exists.intro [] (.inr (.inl ⟨rfl, fun p => hnone p (fun h => hv h.1), rfl, rfl⟩))
      first
        | refine And.intro ⟨trivial, trivial, trivial⟩ (And.intro ⟨flat_bools, trivial⟩ ?_)
        | skip
      refine And.intro (fun _ => ?_) fun h => Bool.noConfusion h
      have hml2 : ((modelOf t W).map tB).length = W.length * wdt t + t.facts.length := by rw [List.length_map, modelOf_len]
      refine Exists.intro ((modelOf t W).map tB) (And.intro (by rw [List.drop_zero, ← hml2, List.take_length]) (And.intro (by rw [hml2, Nat.zero_add]; exact Nat.le_refl _) ?_))
      refine SpecP.mono (f47_spec false n2 (modelOf t W) m _) ?_
      rintro _ _ ⟨rfl, rfl⟩
      refine And.intro trivial (And.intro trivial ?_)
      refine And.intro (fun h7 => ?_) fun h7 => ?_
      · have h7 : modelOf t W = m := beq_iff_eq.1 h7
        refine Exists.intro [400] (.inr (.inr ⟨rfl, W, ⟨hWl, hv, h7⟩, rfl, rfl⟩))
      · have h7 : ¬ modelOf t W = m := by rw [beq_eq_false_iff_ne] at h7; exact h7
        exact Exists.intro [] (.inr (.inl ⟨rfl, fun p => hnone p (fun h => h7 h.2), rfl, rfl⟩))
theorem f18_spec (t : Task) (n : Int) (n2 : Bool) (m : List Bool) (out : List Fr) : SpecP Try.prog 18 [.task t, .int n, .bools n2 m] out fun r ro => Decoded t n m r ∧ ro = [] :=
  (f18o_spec t n n2 m out).close fun r ro h => by
    rcases h with ⟨h1, rfl, rfl⟩ | ⟨h1, h2, rfl, rfl⟩ | ⟨h1, p, h2, rfl, rfl⟩
    · exact ⟨_, .pair _ _ _ _ (.same _) (.same _), .err _ rfl h1, rfl⟩
    · exact ⟨_, .pair _ _ _ _ (.same _) (.same _), .none h1 h2, rfl⟩
    · exact ⟨_, .pair _ _ _ _ (acc_cls (e := 3) fun x r h => by rw [h]; exact look_cons .. |>.trans (if_pos rfl)) (.same _), .ok p h1 h2, rfl⟩
end Go.Fw

/- The reference's Model. -/
namespace Go.Fw
open Go Go.Proofs
set_option maxRecDepth 10000

theorem f55c_spec (n : Nat) (n1 : Bool) (l : List Int) (hn : n ≤ 140737488355328) (hl : ∀ x ∈ l, 0 ≤ x ∧ x < n) (out : List Fr) : SpecP Try.prog 55 [.int n, .ints n1 l] out fun r ro => r = .bools false (bitsL n l) ∧ ro = [] :=
  (f55_spec n n1 l hn hl out).close fun r ro h => by
    obtain ⟨rfl, rfl⟩ := h
    refine ⟨_, .row 72 4 1 0 n _ rfl (by rw [List.length_map, bitsL_length]; omega), ?_, rfl⟩
    rw [List.drop_zero, List.take_of_length_le (by rw [List.length_map, bitsL_length]; exact Nat.le_refl _)]
theorem f56c_spec (t : Task) (n1 : Bool) (s : List Int) (k : Nat) (TK : TaskOK t) (hs : ∀ x ∈ s, 0 ≤ x ∧ x < (t.facts.length : Int)) (hk : k < t.acts.length) (out : List Fr) :
    SpecP Try.prog 56 [.task t, .ints n1 s, .int k] out fun r ro => r = .ints (afterL t.facts.length s t.acts[k].effs).isEmpty (afterL t.facts.length s t.acts[k].effs) ∧ ro = [] :=
  (f56_spec t n1 s k TK hs hk out).close fun r ro h => by
    obtain ⟨rfl, rfl⟩ := h
    generalize afterL t.facts.length s t.acts[k].effs = L
    cases L with
    | nil => exact ⟨_, .nil 0 1, rfl, rfl⟩
    | cons x r => exact ⟨_, .same _, rfl, rfl⟩
theorem len3 {W Z X : List Bool} {a b c : Nat} (h1 : W.length = a) (h2 : Z.length = b) (h3 : X.length = c) : (W ++ (Z ++ X)).length = a + b + c := by
  rw [List.length_append, List.length_append]; omega
def kq23 : Kp := [(4, ([2, 5, 6, 14, 15, 16], [16, 208, 304])), (8, ([2, 5, 6, 8, 14, 15, 16, 29, 30], [16, 208, 304])), (13, ([2, 5, 6, 8, 14, 15, 16, 41, 42, 43], [16, 208, 304]))]
set_option maxHeartbeats 2000000 in
theorem f23o_spec (t : Task) (n2 : Bool) (p : List Int) (ht : isB t = true) (hv : Valid t t.init p) (hn : p.length ≤ 100) (out : List Fr) : SpecP Try.prog 23 [.task t, .ints n2 p] out fun r ro => ∃ σ, (σ = 208 ∨ σ = 304 ∨ σ = 528) ∧ r = accV σ 1 ((modelOf t p).map tB) ∧ ro = accO σ 4 1 ((modelOf t p).map tB) := by
  have TK := task_ok ht
  have hs := init_rising ht
  have hF := TK.facts
  have hA := TK.acts
  have hE := effs_le TK
  have hwd : wdt t ≤ 200000 := by unfold wdt; omega
  have hnw : p.length * wdt t ≤ 100 * 200000 := Nat.mul_le_mul hn hwd
  have hp := hv.plan
  refine spec_body cx_ok kq23 [] (fn := Try.f23) (by kernel_rfl) rfl (by kernel_rfl) rfl (by unfold FnOK; kernel_rfl) fun hok => ?_
  have e0 : (p.map tI).length = p.length := List.length_map ..
  have e1 : (t.facts.map tS).length = t.facts.length := List.length_map ..
  by_cases hF0 : t.facts.length = 0
  case' pos => let G0 : Nat := 304
  case' neg => let G0 : Nat := 208
  all_goals
    refine LoopW.mk (Nat × List Bool) (fun u => u.1 ≤ p.length ∧ u.2 = modL t p u.1)
      (fun u => [(2, .ptr (.cur 16) 0), (5, accV G0 1 (u.2.map tB)), (6, .ints (stN t.ni t t.init p u.1) (stAt t t.init p u.1)), (14, .ints n2 p), (15, .int (p.map tI).length), (16, .int u.1)])
      (fun u => ⟨out, (16, .box (cellsTask t)) :: accO G0 4 1 (u.2.map tB)⟩) (fun u => p.length - u.1) (0, []) ⟨Nat.zero_le _, rfl⟩ ⟨rfl, rfl⟩ ?_
    rintro ⟨i, L⟩ ⟨hi0, hL⟩
    simp only at hi0 hL
    have hsi := st_rising (t := t) (p := p) hs i
    have hin := rising_in hsi
    have hLl : L.length = i * wdt t := by rw [hL, modL_len]
    have hiw : i * wdt t ≤ p.length * wdt t := Nat.mul_le_mul_right _ hi0
    have m55 := f55c_spec (t.facts.map tS).length (stN t.ni t t.init p i) (stAt t t.init p i) (by omega) (by rw [e1]; exact hin)
    have hbl := bitsL_length (t.facts.map tS).length (stAt t t.init p i)
    have hbe : bitsL (t.facts.map tS).length (stAt t t.init p i) = bitsL t.facts.length (stAt t t.init p i) := by rw [e1]
    generalize bitsL (t.facts.map tS).length (stAt t t.init p i) = bs at m55 hbl hbe
    cases L
    case' nil => let W : List Bool := []
    case' cons y0 r0 => let W : List Bool := y0 :: r0
    all_goals
      refine And.intro (fun h1 => ?_) fun h1 => ?_
      rotate_left
      · have hi : i = p.length := by have := ge_of_dec h1; have : i ≤ p.length := hi0; omega
        subst hi
        refine SpecP.mono (m55 _) ?_
        rintro _ _ ⟨rfl, rfl⟩
        have hbl' : bs.length = t.facts.length := hbl.trans e1
        have hMO : modelOf t p = W ++ bs := by rw [modelOf, show W = modL t p p.length from hL, hbe]
        have hWl : W.length = p.length * wdt t := hLl
        have hl4 : (W.map tB ++ bs.map tB).length ≤ 1000000000 := by rw [List.length_append, List.length_map, List.length_map, hWl, hbl']; omega
        cases bs
        all_goals
          first
            | (exfalso; rw [List.length_nil] at hbl'; omega)
            | (exfalso; rw [List.length_cons] at hbl'; omega)
            | (repeat first
                 | refine And.intro (Nat.le_of_ble_eq_true rfl) ?_
                 | refine And.intro rfl ?_
                 | refine And.intro (Nat.le_trans (Nat.mul_le_mul_right _ hl4) (Nat.le_of_ble_eq_true rfl)) ?_
                 | refine And.intro (Nat.le_trans hl4 (Nat.le_of_ble_eq_true rfl)) ?_
               rw [hMO]
               first
                 | exact Exists.intro [] (Exists.intro 208 (And.intro (.inl rfl) (And.intro rfl rfl)))
                 | exact Exists.intro [528] (Exists.intro 528 (And.intro (.inr (.inr rfl)) (And.intro rfl rfl)))
                 | (refine Exists.intro [G0] (Exists.intro G0 (And.intro (by first | exact .inl rfl | exact .inr (.inl rfl)) ?_))
                    rw [List.map_append]
                    exact And.intro rfl rfl))
      have hi := lt_of_dec h1
      refine And.intro (by first | omega | (dsimp only; omega)) (Exists.intro _ (And.intro (get_map hi) ?_))
      refine SpecP.mono (m55 _) ?_
      rintro _ _ ⟨rfl, rfl⟩
      cases bs
      case' nil => let Z : List Bool := []
      case' cons b0 br => let Z : List Bool := b0 :: br
      all_goals
        have hZ : Z = bitsL t.facts.length (stAt t t.init p i) := hbe
        have hZl : Z.length = t.facts.length := by rw [hZ, bitsL_length]
        have hWl : W.length = i * wdt t := hLl
        have hl4 : (W.map tB ++ Z.map tB).length ≤ 1000000000 := by simp only [List.length_append, List.length_map, hZl, hWl]; omega
        first
          | (exfalso; rw [List.length_nil] at hZl; omega)
          | (exfalso; rw [show Z.length = br.length + 1 from rfl] at hZl; omega)
          | (obtain ⟨k, hk1, hk2, hk3, _⟩ := plan_get hp hi
             have hg : p.getD i 0 = (k : Int) := by rw [List.getD_eq_getElem?_getD, List.getElem?_eq_getElem hi, Option.getD_some, hk1]
             have hwe : wdt t = t.facts.length + t.acts.length + (effsOf t).length := rfl
             have hiw2 : i * wdt t + wdt t ≤ p.length * wdt t := by have := Nat.mul_le_mul_right (wdt t) (show i + 1 ≤ p.length from hi); rwa [Nat.add_mul, Nat.one_mul] at this
             first
               | refine And.intro rfl (And.intro (by show (W.map tB ++ Z.map tB).length * 1 ≤ _; omega) (And.intro (by show (W.map tB ++ Z.map tB).length ≤ _; omega) ?_))
               | refine And.intro (by show (W.map tB ++ Z.map tB).length * 1 ≤ _; omega) (And.intro (by show (W.map tB ++ Z.map tB).length ≤ _; omega) ?_)
               | skip
             refine LoopW.mk (Nat × List Bool) (fun u => u.1 ≤ t.acts.length ∧ u.2 = W ++ (Z ++ (actsL t.acts.length p[i]).take u.1))
               (fun u => [(2, .ptr (.cur 16) 0), (5, accV G0 1 (u.2.map tB)), (6, .ints (stN t.ni t t.init p i) (stAt t t.init p i)), (8, .int p[i]), (14, .ints n2 p), (15, .int (p.map tI).length), (16, .int i), (29, .int (t.acts.map tAct).length), (30, .int u.1)])
               (fun u => ⟨out, (16, .box (cellsTask t)) :: accO G0 4 1 (u.2.map tB)⟩) (fun u => t.acts.length - u.1) (0, W ++ Z) ⟨Nat.zero_le _, by simp⟩ ?_ ?_
             · first
                 | exact ⟨rfl, rfl⟩
                 | (have e : (r0 ++ Z).map tB = r0.map tB ++ Z.map tB := by simp
                    simp only [show W ++ Z = y0 :: (r0 ++ Z) from rfl, List.map_cons, e]
                    exact ⟨rfl, rfl⟩)
             rintro ⟨a, M⟩ ⟨ha0, hM⟩
             simp only at ha0 hM
             have hMl : M.length = i * wdt t + t.facts.length + a := by
               rw [hM]; exact len3 hWl hZl (by rw [List.length_take, actsL_len, Nat.min_eq_left ha0])
             cases M
             case' nil => let O : List Bool := []
             case' cons y1 r1 => let O : List Bool := y1 :: r1
             all_goals
               refine And.intro (fun h2 => ?_) fun h2 => ?_
               · have ha : a < t.acts.length := lt_of_dec h2
                 have hO : O = W ++ (Z ++ (actsL t.acts.length p[i]).take a) := hM
                 have hOl : O.length = i * wdt t + t.facts.length + a := hMl
                 have stp : ∀ b, ((a : Int) == p[i]) = b → O ++ [b] = W ++ (Z ++ (actsL t.acts.length p[i]).take (a + 1)) := fun b hb => by
                   rw [hO, List.take_add_one, actsL, List.getElem?_map, List.getElem?_range ha, Option.map_some, hb]; simp
                 have hl4 : ∀ X : List T, ((O.map tB) ++ [X]).length ≤ 1000000001 := fun X => by
                   rw [List.length_append, List.length_map, List.length_singleton]; omega
                 first
                   | (exfalso; rw [show O.length = 0 from rfl] at hOl; omega)
                   | (refine And.intro (fun h3 => ?_) fun h3 => ?_
                      all_goals
                        have stp := stp _ h3
                        repeat first
                          | refine And.intro (Nat.le_of_ble_eq_true rfl) ?_
                          | refine And.intro rfl ?_
                          | refine And.intro (Nat.le_trans (Nat.mul_le_mul_right _ (hl4 _)) (Nat.le_of_ble_eq_true rfl)) ?_
                          | refine And.intro (Nat.le_trans (hl4 _) (Nat.le_of_ble_eq_true rfl)) ?_
                        refine And.intro (by first | omega | (dsimp only; omega)) (And.intro (by first | omega | (dsimp only; omega)) ?_)
                        first
                          | exact Exists.intro (a + 1, O ++ [true]) (And.intro (by show t.acts.length - (a + 1) < t.acts.length - a; omega) (And.intro ⟨ha, stp⟩ (And.intro rfl rfl)))
                          | exact Exists.intro (a + 1, O ++ [false]) (And.intro (by show t.acts.length - (a + 1) < t.acts.length - a; omega) (And.intro ⟨ha, stp⟩ (And.intro rfl rfl)))
                          | (refine Exists.intro (a + 1, y1 :: (r1 ++ [true])) (And.intro (by show t.acts.length - (a + 1) < t.acts.length - a; omega) (And.intro ⟨ha, stp⟩ ?_))
                             simp only [List.map_cons, List.map_append, List.map_nil]
                             exact And.intro rfl rfl)
                          | (refine Exists.intro (a + 1, y1 :: (r1 ++ [false])) (And.intro (by show t.acts.length - (a + 1) < t.acts.length - a; omega) (And.intro ⟨ha, stp⟩ ?_))
                             simp only [List.map_cons, List.map_append, List.map_nil]
                             exact And.intro rfl rfl))
               have ha : a = t.acts.length := by have := ge_of_dec h2; have : a ≤ t.acts.length := ha0; omega
               subst ha
               first
                 | (exfalso; have hMl : 0 = _ := hMl; omega)
                 | (refine SpecP.mono (f54_spec t TK _) ?_
                    rintro _ _ ⟨rfl, rfl⟩
                    have hO : O = W ++ (Z ++ actsL t.acts.length p[i]) := by
                      rw [show O = _ from hM, List.take_of_length_le (by rw [actsL_len]; exact Nat.le_refl _)]
                    have hOl : O.length = i * wdt t + t.facts.length + t.acts.length := hMl
                    have hE2 : ((effsOf t).map tEff).length = (effsOf t).length := List.length_map ..
                    refine LoopW.mk (Nat × List Bool) (fun u => u.1 ≤ (effsOf t).length ∧ y1 :: u.2 = O ++ (whenL (stAt t t.init p i) (effsOf t)).take u.1)
                      (fun u => [(2, .ptr (.cur 16) 0), (5, accV G0 1 ((y1 :: u.2).map tB)), (6, .ints (stN t.ni t t.init p i) (stAt t t.init p i)), (8, .int p[i]), (14, .ints n2 p), (15, .int (p.map tI).length), (16, .int i),
                        (41, .t (.sl ((effsOf t).map tEff).isEmpty 3 ((effsOf t).map tEff))), (42, .int ((effsOf t).map tEff).length), (43, .int u.1)])
                      (fun u => ⟨out, (16, .box (cellsTask t)) :: accO G0 4 1 ((y1 :: u.2).map tB)⟩) (fun u => (effsOf t).length - u.1) (0, r1) ⟨Nat.zero_le _, by simp [O]⟩ ⟨rfl, rfl⟩ ?_
                    rintro ⟨m, R⟩ ⟨hm0, hR⟩
                    have hRl : (y1 :: R).length = i * wdt t + t.facts.length + t.acts.length + m := by
                      rw [show y1 :: R = _ from hR, List.length_append, hOl, List.length_take, whenL_len, Nat.min_eq_left hm0]
                    have hRm : (R.map tB).length + 1 = i * wdt t + t.facts.length + t.acts.length + m := by rw [List.length_map]; exact hRl
                    refine And.intro (fun h2 => ?_) fun h2 => ?_
                    · have hm : m < (effsOf t).length := lt_of_dec h2
                      refine And.intro (by first | omega | (dsimp only; omega)) (Exists.intro _ (And.intro (get_map hm) ?_))
                      refine SpecP.mono (f53_spec (stN t.ni t t.init p i) (effsOf t)[m].nil (stAt t t.init p i) (effsOf t)[m].when_ _) ?_
                      rintro _ _ ⟨rfl, rfl⟩
                      have stp : y1 :: (R ++ [holdsB (stAt t t.init p i) (effsOf t)[m].when_]) = O ++ (whenL (stAt t t.init p i) (effsOf t)).take (m + 1) := by
                        rw [← List.cons_append, show y1 :: R = _ from hR, List.append_assoc, List.take_add_one, whenL, List.getElem?_map, List.getElem?_eq_getElem hm]; rfl
                      refine And.intro (fun h3 => ?_) fun h3 => ?_
                      all_goals
                        rw [h3] at stp
                        have hl4 : ∀ X : List T, ((tB y1 :: R.map tB) ++ [X]).length ≤ 1000000001 := fun X => by
                          rw [List.length_append, List.length_cons, List.length_singleton]; omega
                        repeat first
                          | refine And.intro (Nat.le_of_ble_eq_true rfl) ?_
                          | refine And.intro rfl ?_
                          | refine And.intro (Nat.le_trans (Nat.mul_le_mul_right _ (hl4 _)) (Nat.le_of_ble_eq_true rfl)) ?_
                          | refine And.intro (Nat.le_trans (hl4 _) (Nat.le_of_ble_eq_true rfl)) ?_
                        refine And.intro (by first | omega | (dsimp only; omega)) (And.intro (by first | omega | (dsimp only; omega)) ?_)
                        refine Exists.intro (m + 1, _) (And.intro (by show (effsOf t).length - (m + 1) < (effsOf t).length - m; omega) (And.intro ⟨hm, stp⟩ ?_))
                        simp only [List.map_cons, List.map_append, List.map_nil]
                        exact And.intro rfl rfl
                    have hm : m = (effsOf t).length := by have := ge_of_dec h2; have : m ≤ (effsOf t).length := hm0; omega
                    subst hm
                    have m56 := f56c_spec t (stN t.ni t t.init p i) (stAt t t.init p i) k TK hin hk2
                    rw [show (k : Int) = p[i] from hk1.symm] at m56
                    refine SpecP.mono (m56 _) ?_
                    rintro _ _ ⟨rfl, rfl⟩
                    have hst : stAt t t.init p (i + 1) = afterL t.facts.length (stAt t t.init p i) t.acts[k].effs := by rw [stAt, show pAct t p i = t.acts[k] from hk3]
                    rw [← hst]
                    refine And.intro (by first | omega | (dsimp only; omega)) (And.intro (by first | omega | (dsimp only; omega)) ?_)
                    refine Exists.intro (i + 1, y1 :: R) (And.intro (by show p.length - (i + 1) < p.length - i; omega) (And.intro ⟨hi, ?_⟩ (And.intro rfl rfl)))
                    show y1 :: R = modL t p (i + 1)
                    rw [show y1 :: R = _ from hR, hO, List.take_of_length_le (by rw [whenL_len]; exact Nat.le_refl _), modL, rowL, hg, show (k : Int) = p[i] from hk1.symm, hZ, show W = modL t p i from hL]
                    simp only [List.append_assoc]))
theorem f23_spec (t : Task) (n2 : Bool) (p : List Int) (ht : isB t = true) (hv : Valid t t.init p) (hn : p.length ≤ 100) (out : List Fr) : SpecP Try.prog 23 [.task t, .ints n2 p] out fun r ro => r = .bools ((modelOf t p).map tB).isEmpty (modelOf t p) ∧ ro = [] :=
  (f23o_spec t n2 p ht hv hn out).close fun r ro h => by
    obtain ⟨σ, -, rfl, rfl⟩ := h
    exact ⟨_, acc_cls (e := 4) fun x r h => by rw [h]; exact look_cons .. |>.trans (if_pos rfl), rfl, rfl⟩
end Go.Fw

/- The reference's Plan. -/
namespace Go.Fw
open Go Go.Proofs
set_option maxRecDepth 10000

def lastT (q : Nat → Bool) : Nat → Int
  | 0 => -1
  | k + 1 => if q k = true then (k : Int) else lastT q k
theorem lastT_in (q : Nat → Bool) : ∀ n, -1 ≤ lastT q n ∧ lastT q n < n
  | 0 => ⟨Int.le_refl _, by unfold lastT; omega⟩
  | n + 1 => by
    have := lastT_in q n
    unfold lastT
    split <;> omega
theorem lastT_one {q : Nat → Bool} {x : Int} : ∀ {n : Nat}, pickF q n = [x] → lastT q n = x
  | 0, h => by simp [pickF] at h
  | n + 1, h => by
    rw [pickF_step] at h
    unfold lastT
    by_cases hq : q n = true
    · rw [if_pos hq] at h ⊢
      have h1 : (pickF q n ++ [(n : Int)]).getLast? = [x].getLast? := by rw [h]
      simp at h1; exact h1
    · rw [if_neg hq] at h ⊢
      exact lastT_one (by simpa using h)
theorem getD_app {L : List Int} {x : Int} {j : Nat} (h : j < L.length) : (L ++ [x]).getD j 0 = L.getD j 0 := by
  rw [List.getD_eq_getElem?_getD, List.getD_eq_getElem?_getD, List.getElem?_append_left h]
theorem getD_end {L : List Int} {x : Int} : (L ++ [x]).getD L.length 0 = x := by
  rw [List.getD_eq_getElem?_getD, List.getElem?_append_right (Nat.le_refl _), Nat.sub_self]; rfl
theorem pAct_cg {t : Task} {p q : List Int} {i : Nat} (h : p.getD i 0 = q.getD i 0) : pAct t p i = pAct t q i := by unfold pAct; rw [h]
theorem stAt_cg {t : Task} {s p q : List Int} : ∀ {k : Nat}, (∀ j, j < k → p.getD j 0 = q.getD j 0) → stAt t s p k = stAt t s q k
  | 0, _ => rfl
  | k + 1, h => by rw [stAt, stAt, stAt_cg fun j hj => h j (by omega), pAct_cg (h k (by omega))]
theorem okAt_cg {t : Task} {s p q : List Int} {k : Nat} (h : ∀ j, j ≤ k → p.getD j 0 = q.getD j 0) : okAt t s p k = okAt t s q k := by
  rw [okAt, okAt, stAt_cg fun j hj => h j (by omega), pAct_cg (h k (Nat.le_refl k))]

/-- Plan: the times that are read. -/
structure RdP (t : Task) (N : Nat) (m : List Bool) (i : Nat) (W : List Int) : Prop where
  len : W.length = i
  mem : ∀ x ∈ W, 0 ≤ x ∧ x < (t.acts.length : Int)
  ok : ∀ j, j < i → okAt t t.init W j = true
  all : ∀ p, Dec t N m p → ∀ j, j < i → p.getD j 0 = W.getD j 0
def lastA (t : Task) (m : List Bool) (i k : Nat) : Int := lastT (fun a => m.getD (i * wdt t + t.facts.length + a) false) k
theorem RdP.app {t : Task} {N : Nat} {m : List Bool} {i : Nat} {W : List Int} (h : RdP t N m i W) (x : Int) : ∀ j, j ≤ i → (j < i → (W ++ [x]).getD j 0 = W.getD j 0) ∧ (j = i → (W ++ [x]).getD j 0 = x) := fun j _ =>
  ⟨fun h1 => getD_app (by have := h.len; omega), fun h1 => by rw [h1, ← h.len]; exact getD_end⟩
theorem RdP.st {t : Task} {N : Nat} {m : List Bool} {i : Nat} {W : List Int} (h : RdP t N m i W) (x : Int) : stAt t t.init (W ++ [x]) i = stAt t t.init W i :=
  stAt_cg fun j hj => (h.app x j (Nat.le_of_lt hj)).1 hj
theorem RdP.act {t : Task} {N : Nat} {m : List Bool} {i k : Nat} {W : List Int} (h : RdP t N m i W) (hk : k < t.acts.length) : pAct t (W ++ [(k : Int)]) i = t.acts[k] := by
  unfold pAct
  rw [(h.app (k : Int) i (Nat.le_refl _)).2 rfl, Int.toNat_natCast, List.getElem?_eq_getElem hk]
theorem RdP.step {t : Task} {N : Nat} {m : List Bool} {i k : Nat} {W : List Int} (h : RdP t N m i W) (hi : i < N) (hx : lastA t m i t.acts.length = k) (hk : k < t.acts.length) (hh : holdsB (stAt t t.init W i) t.acts[k].pre = true) :
    RdP t N m (i + 1) (W ++ [(k : Int)]) where
  len := by simp [h.len]
  mem := fun x hx => by
    rcases List.mem_append.1 hx with h1 | h1
    · exact h.mem x h1
    · rw [List.mem_singleton.1 h1]; omega
  ok := fun j hj => by
    rcases Nat.lt_or_ge j i with h1 | h1
    · rw [okAt_cg (q := W) fun l hl => (h.app _ l (by omega)).1 (by omega)]; exact h.ok j h1
    · rw [show j = i by omega, okAt, h.st, h.act hk]; exact hh
  all := fun p hp j hj => by
    rcases Nat.lt_or_ge j i with h1 | h1
    · rw [(h.app _ j (by omega)).1 h1]; exact h.all p hp j h1
    · have hji : j = i := by omega
      rw [(h.app _ j (by omega)).2 hji, hji, ← hx]
      exact (lastT_one (hp.sel hi)).symm
theorem RdP.none {t : Task} {N : Nat} {m : List Bool} {i k : Nat} {W : List Int} (h : RdP t N m i W) (hi : i < N) (hx : lastA t m i t.acts.length = k) (hk : k < t.acts.length) (hh : holdsB (stAt t t.init W i) t.acts[k].pre = false) : ∀ p, ¬ Dec t N m p := fun p hp => by
  have h1 := hp.val.ok i (hp.len ▸ hi)
  have h2 : p.getD i 0 = k := by rw [← hx]; exact (lastT_one (hp.sel hi)).symm
  have h3 : okAt t t.init p i = okAt t t.init (W ++ [(k : Int)]) i := okAt_cg fun j hj => by
    rcases Nat.lt_or_ge j i with h4 | h4
    · rw [(h.app _ j hj).1 h4]; exact h.all p hp j h4
    · rw [(h.app _ j hj).2 (by omega), show j = i by omega, h2]
  rw [h3, okAt, h.st, h.act hk, hh] at h1
  cases h1
theorem RdP.neg {t : Task} {N : Nat} {m : List Bool} {i : Nat} {W : List Int} (_h : RdP t N m i W) (hi : i < N) (hx : lastA t m i t.acts.length < 0) : ∀ p, ¬ Dec t N m p := fun p hp => by
  have h2 : lastA t m i t.acts.length = p.getD i 0 := lastT_one (hp.sel hi)
  have := planB_at hp.val.plan (hp.len.symm ▸ hi)
  omega
theorem RdP.one {t : Task} {N : Nat} {m : List Bool} {W : List Int} (h : RdP t N m N W) {p : List Int} (hp : Dec t N m p) : p = W :=
  ext_getD (hp.len.trans h.len.symm) fun i hi => h.all p hp i (hp.len ▸ hi)
theorem RdP.plan {t : Task} {N : Nat} {m : List Bool} {i : Nat} {W : List Int} (h : RdP t N m i W) (hi : i ≤ 10000) : planB t W = true := by
  rw [planB, Bool.and_eq_true, decide_eq_true_eq, List.all_eq_true]
  refine ⟨by rw [h.len]; exact hi, fun x hx => ?_⟩
  have := h.mem x hx
  rw [Bool.and_eq_true, decide_eq_true_eq, decide_eq_true_eq]; exact this
theorem RdP.valid {t : Task} {N : Nat} {m : List Bool} {W : List Int} (h : RdP t N m N W) (hN : N ≤ 10000) (hg : holdsB (stAt t t.init W N) t.goal = true) : Valid t t.init W :=
  ⟨h.plan hN, fun i hi => h.ok i (h.len ▸ hi), by rw [h.len]; exact hg⟩

def od25 : Od := [(3, [(0, .tree (.pure 0 (.pure 1 (.pure 2 (.pure 3 (.pure 4 (.pure 5 (.pure 6 (.pure 7 (.last 8 (.pure 9 (.pure 10 (.pure 11 .done))) [0, 1, 2, 3, 4, 5, 6]))))))))))])]
def kq25 : Kp := [(7, ([1, 2, 3, 8, 9, 10, 11], [24, 608])), (11, ([1, 2, 3, 8, 9, 10, 11, 12, 42, 43], [24, 608])), (23, ([2, 9, 88, 89, 90], [608, 705002323, 705002419, 705002643]))]
set_option maxHeartbeats 2000000 in
theorem f25_spec (t : Task) (N : Nat) (n2 : Bool) (m : List Bool) (ht : isB t = true) (hN : N ≤ 20) (out : List Fr) : SpecP Try.prog 25 [.task t, .int N, .bools n2 m] out fun r ro =>
    ((∃ p, Dec t N m p ∧ r = .tup [.ints (p.map tI).isEmpty p, .bool true]) ∨ ((∀ p, ¬ Dec t N m p) ∧ r = .tup [.t (.sl true 0 []), .bool false])) ∧ ro = [] := by
  have TK := task_ok ht
  have hs := init_rising ht
  have hF := TK.facts
  have hA := TK.acts
  have hE := effs_le TK
  have hwd : wdt t ≤ 200000 := by unfold wdt; omega
  have hnw : N * wdt t ≤ 20 * 200000 := Nat.mul_le_mul hN hwd
  refine SpecP.close (Post := fun r ro => (∃ p, Dec t N m p ∧ r = .tup [accV 608 1 (p.map tI), .bool true] ∧ ro = accO 608 3 1 (p.map tI)) ∨ ((∀ p, ¬ Dec t N m p) ∧ r = .tup [.t (.sl true 0 []), .bool false] ∧ ro = [])) ?_ ?_
  rotate_left
  · rintro r ro (⟨p, h, rfl, rfl⟩ | ⟨h, rfl, rfl⟩)
    · exact ⟨_, .pair _ _ _ _ (acc_cls (e := 3) fun x r h => by rw [h]; exact look_cons .. |>.trans (if_pos rfl)) (.same _), .inl ⟨p, h, rfl⟩, rfl⟩
    · exact ⟨_, .pair _ _ _ _ (.same _) (.same _), .inr ⟨h, rfl⟩, rfl⟩
  refine spec_body cx_ok kq25 od25 (fn := Try.f25) (by kernel_rfl) rfl (by kernel_rfl) rfl (by unfold FnOK; kernel_rfl) fun hok => ?_
  have e1 : (t.facts.map tS).length = t.facts.length := List.length_map ..
  have e2 : (t.acts.map tAct).length = t.acts.length := List.length_map ..
  have e3 : ((effsOf t).map tEff).length = (effsOf t).length := List.length_map ..
  have em : (m.map tB).length = m.length := List.length_map ..
  have hwe : wdt t = t.facts.length + t.acts.length + (effsOf t).length := rfl
  refine SpecP.mono (f21_spec t N TK (by omega) []) ?_
  rintro _ _ ⟨rfl, rfl⟩
  refine And.intro (fun h2 => ?_) fun h2 => ?_
  · have h2 : ¬ ((m.map tB).length : Int) = ((N * wdt t + t.facts.length : Nat) : Int) := by simpa using h2
    refine Exists.intro [] (.inr ⟨fun p hd => h2 ?_, rfl, rfl⟩)
    rw [em, ← hd.mod, modelOf_len, hd.len]
  have h2 : ((m.map tB).length : Int) = ((N * wdt t + t.facts.length : Nat) : Int) := by simpa using h2
  have hml : m.length = N * wdt t + t.facts.length := by omega
  refine And.intro (by omega) (And.intro (by omega) ?_)
  refine SpecP.mono (f54_spec t TK []) ?_
  rintro _ _ ⟨rfl, rfl⟩
  repeat first
    | refine And.intro rfl ?_
    | refine And.intro (by omega) ?_
  let w : Int := (t.facts.map tS).length + (t.acts.map tAct).length + ((effsOf t).map tEff).length
  have hw : w = wdt t := by show ((t.facts.map tS).length : Int) + (t.acts.map tAct).length + ((effsOf t).map tEff).length = _; omega
  refine LoopW.mk (Nat × List Int) (fun u => u.1 ≤ N ∧ RdP t N m u.1 u.2)
    (fun u => [(1, .int N), (2, .bools n2 m), (3, .ptr (.cur 24) 0), (8, .int w), (9, accV 608 1 (u.2.map tI)), (10, .ints (stN t.ni t t.init u.2 u.1) (stAt t t.init u.2 u.1)), (11, .int u.1)])
    (fun u => ⟨out, (24, .box (cellsTask t)) :: accO 608 3 1 (u.2.map tI)⟩) (fun u => N - u.1) (0, []) ⟨Nat.zero_le _, rfl, fun x hx => by simp at hx, fun j hj => by omega, fun p hp j hj => by omega⟩ ⟨rfl, rfl⟩ ?_
  rintro ⟨i, L⟩ ⟨hi0, hR⟩
  simp only at hi0 hR
  have hsi := st_rising (t := t) (p := L) hs i
  have hin := rising_in hsi
  cases L
  case' nil => let W : List Int := []
  case' cons y0 r0 => let W : List Int := y0 :: r0
  all_goals
    have hR : RdP t N m i W := hR
    have hWl : W.length = i := hR.len
    refine And.intro (fun h3 => ?_) fun h3 => ?_
    · have hi : i < N := by have := of_decide_eq_true h3; dsimp only at this; omega
      have hiw : i * wdt t + wdt t ≤ N * wdt t := by have := Nat.mul_le_mul_right (wdt t) (show i + 1 ≤ N from hi); rwa [Nat.add_mul, Nat.one_mul] at this
      have eiw : (i : Int) * w = ((i * wdt t : Nat) : Int) := by rw [hw]; exact (Int.natCast_mul ..).symm
      refine LoopW.mk Nat (fun a => a ≤ t.acts.length)
        (fun a => [(1, .int N), (2, .bools n2 m), (3, .ptr (.cur 24) 0), (8, .int w), (9, accV 608 1 (W.map tI)), (10, .ints (stN t.ni t t.init W i) (stAt t t.init W i)), (11, .int i), (12, .int (lastA t m i a)), (42, .int (t.acts.map tAct).length), (43, .int a)])
        (fun a => ⟨out, (24, .box (cellsTask t)) :: accO 608 3 1 (W.map tI)⟩) (fun a => t.acts.length - a) 0 (Nat.zero_le _) ⟨rfl, rfl⟩ fun a ha0 => ?_
      refine And.intro (fun h4 => ?_) fun h4 => ?_
      · have ha : a < t.acts.length := lt_of_dec h4
        iterate 7 refine And.intro (by rw [eiw]; omega) ?_
        have hix : (i * w + ((t.facts.map tS).length : Int) + (a : Int) : Int).toNat = i * wdt t + t.facts.length + a := by rw [eiw]; omega
        have hia : i * wdt t + t.facts.length + a < m.length := by omega
        refine Exists.intro (tB (m.getD (i * wdt t + t.facts.length + a) false)) (And.intro (by rw [hix, List.getElem?_map, List.getElem?_eq_getElem hia, getD_lt hia]; rfl) ?_)
        have stp : lastA t m i (a + 1) = if m.getD (i * wdt t + t.facts.length + a) false = true then (a : Int) else lastA t m i a := rfl
        refine And.intro (fun h5 => ?_) fun h5 => ?_
        · rw [if_pos h5] at stp
          refine And.intro (by omega) (And.intro (by omega) ?_)
          exact Exists.intro (a + 1) (And.intro (by show t.acts.length - (a + 1) < t.acts.length - a; omega) (And.intro ha (And.intro (by rw [stp]; rfl) rfl)))
        · rw [if_neg (by rw [h5]; decide)] at stp
          refine And.intro (by omega) (And.intro (by omega) ?_)
          exact Exists.intro (a + 1) (And.intro (by show t.acts.length - (a + 1) < t.acts.length - a; omega) (And.intro ha (And.intro (by rw [stp]; rfl) rfl)))
      have ha : a = t.acts.length := by have := ge_of_dec h4; have : a ≤ t.acts.length := ha0; omega
      subst ha
      have hxi : lastA t m i t.acts.length < t.acts.length := (lastT_in _ _).2
      let x := lastA t m i t.acts.length
      refine And.intro (fun h5 => ?_) fun h5 => ?_
      · exact Exists.intro [] (.inr ⟨hR.neg hi (of_decide_eq_true h5), rfl, rfl⟩)
      have h5 := of_decide_eq_false h5
      obtain ⟨k, hx⟩ := Int.eq_ofNat_of_zero_le (show 0 ≤ x by omega)
      have hk : k < t.acts.length := by have : x < t.acts.length := hxi; omega
      have hxs := hR.step hi hx hk
      have hxo := hR.none hi hx hk
      refine And.intro (by have : x = k := hx; show 0 ≤ x; omega) (Exists.intro _ (And.intro (by show (t.acts.map tAct)[x.toNat]? = _; rw [hx]; exact get_map hk) ?_))
      refine SpecP.mono (f53_spec (stN t.ni t t.init W i) t.acts[k].pn (stAt t t.init W i) t.acts[k].pre _) ?_
      rintro _ _ ⟨rfl, rfl⟩
      refine And.intro (fun h6 => ?_) fun h6 => ?_
      · have hl4 : ∀ X : List T, ((W.map tI) ++ [X]).length ≤ 1000000001 := fun X => by
          rw [List.length_append, List.length_map, List.length_singleton, hWl]; omega
        repeat first
          | refine And.intro (Nat.le_of_ble_eq_true rfl) ?_
          | refine And.intro rfl ?_
          | refine And.intro (Nat.le_trans (Nat.mul_le_mul_right _ (hl4 _)) (Nat.le_of_ble_eq_true rfl)) ?_
          | refine And.intro (Nat.le_trans (hl4 _) (Nat.le_of_ble_eq_true rfl)) ?_
        have m56 := f56c_spec t (stN t.ni t t.init W i) (stAt t t.init W i) k TK hin hk
        rw [← show x = (k : Int) from hx] at m56
        refine SpecP.mono (m56 _) ?_
        rintro _ _ ⟨rfl, rfl⟩
        have hst : stAt t t.init (W ++ [x]) (i + 1) = afterL t.facts.length (stAt t t.init W i) t.acts[k].effs := by rw [stAt, hR.st, show x = (k : Int) from hx, hR.act hk]
        have hR2 : RdP t N m (i + 1) (W ++ [x]) := by rw [show x = (k : Int) from hx]; exact hxs h6
        rw [← hst]
        refine And.intro (by first | omega | (dsimp only; omega)) (And.intro (by first | omega | (dsimp only; omega)) ?_)
        first
          | exact Exists.intro (i + 1, [x]) (And.intro (by show N - (i + 1) < N - i; omega) (And.intro ⟨hi, hR2⟩ (And.intro rfl rfl)))
          | (refine Exists.intro (i + 1, y0 :: (r0 ++ [x])) (And.intro (by show N - (i + 1) < N - i; omega) (And.intro ⟨hi, hR2⟩ ?_))
             have e : (r0 ++ [x]).map tI = r0.map tI ++ [tI x] := by simp
             simp only [List.map_cons, e]
             exact And.intro rfl rfl)
      · exact Exists.intro [] (.inr ⟨hxo h6, rfl, rfl⟩)
    have hi : i = N := by have := of_decide_eq_false h3; dsimp only at this; omega
    subst hi
    refine SpecP.mono (f53_spec (stN t.ni t t.init W i) t.gn (stAt t t.init W i) t.goal _) ?_
    rintro _ _ ⟨rfl, rfl⟩
    refine And.intro (fun h6 => ?_) fun h6 => ?_
    rotate_left
    · exact Exists.intro [] (.inr ⟨fun p hd => (by have e := hR.one hd; have h7 := hd.val.goal; rw [e, hWl, h6] at h7; cases h7), rfl, rfl⟩)
    have hv := hR.valid (by omega) h6
    have eW : (W.map tI).length = W.length := List.length_map ..
    have hml2 : ((modelOf t W).map tB).length = W.length * wdt t + t.facts.length := by rw [List.length_map, modelOf_len]
    have hml3 : (modelOf t W).length = m.length := by rw [modelOf_len, hml, hWl]
    have hDd : modelOf t W = m → Dec t i m W := fun h => ⟨hWl, hv, h⟩
    have hDn : modelOf t W ≠ m → ∀ p, ¬ Dec t i m p := fun h p hd => h (by have e := hR.one hd; rw [← e]; exact hd.mod)
    have m23 := fun n2 => f23_spec t n2 W ht hv (by omega)
    have m23o := fun n2 => f23o_spec t n2 W ht hv (by omega)
    generalize modelOf t W = M at m23 m23o hml2 hml3 hDd hDn
    first
      | (refine Exists.intro (W.map tI) (And.intro take_all (And.intro (by rw [Nat.zero_add]; exact Nat.le_refl _) ?_))
         refine SpecP.mono (m23o false _) ?_
         cases M
         · exfalso
           have h9 := hR.mem y0 (List.mem_cons_self ..)
           have h10 : 0 < W.length * wdt t := Nat.mul_pos (Nat.succ_pos _) (by omega)
           have h11 : 0 = W.length * wdt t + t.facts.length := hml2
           omega
         rename_i z0 zr
         rintro _ _ ⟨σ, (rfl | rfl | rfl), rfl, rfl⟩
         case' inl => let K : Nat := 705002323
         case' inr.inl => let K : Nat := 705002419
         case' inr.inr => let K : Nat := 705002643
         all_goals
           refine And.intro trivial (And.intro ⟨flat_bools (b := z0 :: zr), trivial⟩ ?_)
           refine LoopW.mk Nat (fun j => j ≤ m.length ∧ ∀ l, l < j → m.getD l false = (z0 :: zr).getD l false)
             (fun j => [(2, .bools n2 m), (9, .osl (.cur 608) 1 0 (tI y0 :: r0.map tI).length), (88, .osl (.cur K) 1 0 (tB z0 :: zr.map tB).length), (89, .int (tB z0 :: zr.map tB).length), (90, .int j)])
             (fun _ => ⟨out, [(608, .row 3 1 (tI y0 :: r0.map tI)), (K, .row 4 1 (tB z0 :: zr.map tB))]⟩) (fun j => m.length - j) 0 ⟨Nat.zero_le _, fun l hl => by omega⟩ ⟨rfl, rfl⟩ ?_
           rintro j ⟨hj0, hje⟩
           refine And.intro (fun h7 => ?_) fun h7 => ?_
           · have hj2 : j < (z0 :: zr).length := by
               have h8 : (j : Int) < ((z0 :: zr).map tB).length := of_decide_eq_true h7
               rw [List.length_map] at h8; omega
             have hj : j < m.length := by omega
             refine And.intro (by omega) (And.intro (of_decide_eq_true h7) (Exists.intro _ (And.intro (by rw [Nat.zero_add]; exact get_map (l := z0 :: zr) (f := tB) hj2) ?_)))
             refine And.intro (fun h8 => ?_) fun h8 => ?_
             all_goals
               refine And.intro (by omega) (Exists.intro _ (And.intro (get_map hj) ?_))
               refine And.intro (fun h9 => ?_) fun h9 => ?_
               all_goals
                 refine And.intro (fun h10 => ?_) fun h10 => ?_
                 all_goals
                   first
                     | exact Bool.noConfusion h10
                     | exact Exists.intro [] (.inr ⟨hDn (fun e => by subst e; rw [h8] at h9; cases h9), rfl, rfl⟩)
                     | (refine And.intro (by omega) (And.intro (by omega) ?_)
                        refine Exists.intro (j + 1) (And.intro (by show m.length - (j + 1) < m.length - j; omega) (And.intro ⟨hj, fun l hl => ?_⟩ (And.intro rfl rfl)))
                        rcases Nat.lt_or_ge l j with h11 | h11
                        · exact hje l h11
                        · rw [show l = j by omega, getD_lt hj, getD_lt hj2, h8, h9])
           have hj : j = m.length := by
             have h8 : ¬ (j : Int) < ((z0 :: zr).map tB).length := of_decide_eq_false h7
             rw [List.length_map] at h8; omega
           subst hj
           have hD : Dec t i m W := hDd (List.ext_getElem hml3.symm fun l h8 h9 => by have := hje l h8; rwa [getD_lt h8, getD_lt h9] at this).symm
           exact Exists.intro [608] (.inl ⟨W, hD, rfl, rfl⟩))
      | (refine SpecP.conv (conv_second fun _ _ _ _ => nil_sz _ _ _ _) (SpecP.mono (m23 true _) ?_)
         rintro _ _ ⟨rfl, rfl⟩
         refine LoopW.mk Nat (fun j => j ≤ m.length ∧ ∀ l, l < j → m.getD l false = M.getD l false)
           (fun j => [(2, .bools n2 m), (9, accV 608 1 (W.map tI)), (88, .bools (M.map tB).isEmpty M), (89, .int (M.map tB).length), (90, .int j)])
           (fun _ => ⟨out, accO 608 3 1 (W.map tI)⟩) (fun j => m.length - j) 0 ⟨Nat.zero_le _, fun l hl => by omega⟩ ⟨rfl, rfl⟩ ?_
         rintro j ⟨hj0, hje⟩
         refine And.intro (fun h7 => ?_) fun h7 => ?_
         · have hj : j < m.length := by have := lt_of_dec h7; omega
           have hj2 : j < M.length := by omega
           refine And.intro (by omega) (Exists.intro _ (And.intro (get_map hj2) ?_))
           refine And.intro (fun h8 => ?_) fun h8 => ?_
           all_goals
             refine And.intro (by omega) (Exists.intro _ (And.intro (get_map hj) ?_))
             refine And.intro (fun h9 => ?_) fun h9 => ?_
             all_goals
               refine And.intro (fun h10 => ?_) fun h10 => ?_
               all_goals
                 first
                   | exact Bool.noConfusion h10
                   | exact Exists.intro [] (.inr ⟨hDn (fun e => by subst e; rw [h8] at h9; cases h9), rfl, rfl⟩)
                   | (refine And.intro (by omega) (And.intro (by omega) ?_)
                      refine Exists.intro (j + 1) (And.intro (by show m.length - (j + 1) < m.length - j; omega) (And.intro ⟨hj, fun l hl => ?_⟩ (And.intro rfl rfl)))
                      rcases Nat.lt_or_ge l j with h11 | h11
                      · exact hje l h11
                      · rw [show l = j by omega, getD_lt hj, getD_lt hj2, h8, h9])
         have hj : j = m.length := by have := ge_of_dec h7; omega
         subst hj
         have hD : Dec t i m W := hDd (List.ext_getElem hml3.symm fun l h8 h9 => by have := hje l h8; rwa [getD_lt h8, getD_lt h9] at this).symm
         exact Exists.intro [] (.inl ⟨W, hD, rfl, rfl⟩))
end Go.Fw

/- Projected tasks and states, compared. -/
import Derived.Test.YtkelfldopopgcaaZQ

/- What the reference's functions do: the projection of a task. -/
namespace Go.Fw
open Go Go.Proofs
set_option maxRecDepth 10000

theorem f20f_spec (n1 n2 : Bool) (p s : List Int) {n m : Int} (hp : risingB p n = true) (hs : risingB s m = true) (hl : p.length ≤ 1000000000) (out : List Fr) :
    SpecP Try.prog 20 [.ints n1 p, .ints n2 s] out fun r ro => r = .ints (factsL p s).isEmpty (factsL p s) ∧ ro = [] := by
  have := f20_spec n1 n2 p s hl out
  rwa [stL_facts hp hs] at this
def kq17 : Kp := [(2, ([1, 2, 4, 5], [0, 16, 32, 40])), (3, ([1, 2, 4, 5, 23, 24, 25], [16, 32, 40, 296])), (7, ([1, 2, 4, 5], [0, 16, 32, 40, 296])), (20, ([4, 5], [0, 32, 40, 296, 712])),
  (8, ([1, 4, 5, 41, 42, 43], [32, 40, 296, 712])), (12, ([1, 4, 5, 10, 41, 42, 43, 57, 58, 59], [32, 40, 80, 296, 712, 656]))]
def oq17 : Od := [(1, [(0, .tree (.pure 0 (.pure 1 (.pure 2 (.pure 4 (.pure 5 (.pure 6 (.fork 3 (.fork 7 (.pure 8 (.eff 9 (.last 10 .done []))) [] (.last 9 (.last 7 (.pure 8 (.last 10 .done [])) []) [0, 1, 2, 4, 5, 6])) [4, 5, 6] (.last 9 (.last 3 (.last 7 (.pure 8 (.last 10 .done [])) []) [4, 5, 6]) [0, 1, 2, 4, 5, 6])))))))))]), (5, [(0, .tree (.pure 0 (.pure 1 (.pure 2 (.pure 3 (.pure 4 (.pure 5 (.pure 6 (.eff 7 (.last 8 (.pure 9 (.last 10 .done [])) [2, 3, 4]))))))))))]), (10, [(0, .tree (.pure 0 (.pure 1 (.pure 2 (.pure 3 (.pure 4 (.pure 5 (.pure 6 (.fork 7 (.pure 8 (.eff 9 (.last 10 .done []))) [0, 1, 2, 3] (.last 9 (.last 7 (.pure 8 (.last 10 .done [])) [0, 1, 2, 3]) [0, 1, 2, 3, 4, 5, 6]))))))))))]), (16, [(0, .tree (.pure 0 (.pure 1 (.pure 2 (.pure 3 (.pure 4 (.pure 6 (.pure 7 (.pure 8 (.last 5 (.pure 9 (.eff 10 (.last 11 (.pure 12 (.last 13 .done [])) [6, 7]))) [0, 1, 6, 7, 8]))))))))))])]
abbrev rest17 (k : Nat) (env : Env) (st : St) (Q : Exit → Env → St → Prop) : Prop := CutX (fun env st => wpcX cx Try.prog noY (modH Try.prog) 0 kq17 oq17 (tailC k (Try.f17.body.get!)) env st Q) env st
abbrev resT (t : Task) (p : List Int) : LV → Fr → Prop := fun r ro => r = .agg [accV 296 1 ((p.map (factS t)).map tS), .ints (factsL p t.init).isEmpty (factsL p t.init), .lits (litsL p t.goal).isEmpty (litsL p t.goal), accV 712 4 (t.acts.map (tActP p))] ∧
  ro = accO 296 9 1 ((p.map (factS t)).map tS) ++ accO 712 37 4 (t.acts.map (tActP p))
abbrev boxT (t : Task) (p : List Int) (F : List ByteArray) (A : List Actn) : Ob := .box [accV 296 1 (F.map tS), .ints (factsL p t.init).isEmpty (factsL p t.init), .lits (litsL p t.goal).isEmpty (litsL p t.goal), accV 712 4 (A.map (tActP p))]
abbrev envT (n1 : Bool) (p : List Int) : Env := [(1, .ints n1 p), (2, .ptr (.cur 16) 0), (4, .ptr (.cur 32) 0), (5, .ptr (.cur 40) 0)]

/-- The facts' names. -/
theorem f17_facts (t : Task) (n1 : Bool) (p : List Int) (hp : ∀ x ∈ p, 0 ≤ x ∧ x < (t.facts.length : Int)) (hpl : p.length ≤ 1000000000) (out : List Fr) (Q : Exit → Env → St → Prop)
    (rest8 : rest17 3 (envT n1 p) ⟨out, [(16, .box (cellsTask t)), (32, zeroP), (40, boxT t p (p.map (factS t)) [])] ++ accO 296 9 1 ((p.map (factS t)).map tS)⟩ Q) :
    rest17 2 (envT n1 p) ⟨out, [(16, .box (cellsTask t)), (32, zeroP), (40, boxT t p [] [])]⟩ Q := by
  refine CutX.mk ?_
  refine LoopX.mk (Nat × List ByteArray) (fun u => u.1 ≤ p.length ∧ u.2 = (p.take u.1).map (factS t)) (fun u => envT n1 p ++ [(23, .ints n1 p), (24, .int (p.map tI).length), (25, .int u.1)])
    (fun u => ⟨out, [(16, .box (cellsTask t)), (32, zeroP), (40, boxT t p u.2 [])] ++ accO 296 9 1 (u.2.map tS)⟩) (fun u => p.length - u.1) (0, []) ⟨Nat.zero_le _, rfl⟩ ⟨rfl, rfl⟩ ?_
  rintro ⟨i, F⟩ ⟨hi0, hF⟩
  simp only at hi0 hF
  have hFl : F.length ≤ 1000000000 := by rw [hF, List.length_map, List.length_take]; omega
  cases F
  case' nil => let O : List ByteArray := []
  case' cons y r => let O : List ByteArray := y :: r
  all_goals
    refine And.intro (fun h1 => ?_) fun h1 => ?_
    rotate_left
    · have hi : i = p.length := by have := ge_of_dec h1; have : i ≤ p.length := hi0; omega
      rw [hi, List.take_length] at hF
      have hF' : O = p.map (factS t) := hF
      rw [← hF'] at rest8
      exact rest8
    have hi : i < p.length := lt_of_dec h1
    have hx := hp _ (List.getElem_mem hi)
    have hlt : p[i].toNat < t.facts.length := by omega
    have hg : (t.facts.map tS)[p[i].toNat]? = some (tS (factS t p[i])) := by
      rw [List.getElem?_map, List.getElem?_eq_getElem hlt, factS, List.getD_eq_getElem?_getD, List.getElem?_eq_getElem hlt]; rfl
    refine And.intro (by omega) (Exists.intro _ (And.intro (get_map hi) ?_))
    refine And.intro hx.1 (Exists.intro _ (And.intro hg ?_))
    have hl4 : ∀ X : List T, ((O.map tS) ++ [X]).length ≤ 1000000001 := fun X => by
      have : O.length ≤ 1000000000 := hFl
      rw [List.length_append, List.length_map, List.length_singleton]; omega
    have hnew : O ++ [factS t p[i]] = (p.take (i + 1)).map (factS t) := by
      rw [List.take_add_one, List.getElem?_eq_getElem hi, List.map_append, ← hF]; rfl
    repeat first
      | refine And.intro (Nat.le_of_ble_eq_true rfl) ?_
      | refine And.intro rfl ?_
      | refine And.intro (Nat.le_trans (Nat.mul_le_mul_right _ (hl4 _)) (Nat.le_of_ble_eq_true rfl)) ?_
      | refine And.intro (Nat.le_trans (hl4 _) (Nat.le_of_ble_eq_true rfl)) ?_
    refine And.intro (by show (-9223372036854775808 : Int) ≤ (i : Int) + 1; omega) (And.intro (by show (i : Int) + 1 ≤ 9223372036854775807; omega) ?_)
    first
      | exact Exists.intro (i + 1, [factS t p[i]]) (And.intro (by show p.length - (i + 1) < p.length - i; omega) (And.intro ⟨hi, hnew⟩ (And.intro rfl rfl)))
      | (refine Exists.intro (i + 1, y :: (r ++ [factS t p[i]])) (And.intro (by show p.length - (i + 1) < p.length - i; omega) (And.intro ⟨hi, hnew⟩ ?_))
         have e : (r ++ [factS t p[i]]).map tS = r.map tS ++ [tS (factS t p[i])] := by simp
         simp only [boxT, List.map_cons, e]
         exact And.intro rfl rfl)

theorem f17_fin (t : Task) (p : List Int) (out : List Fr) :
    rest17 4 [(4, .ptr (.cur 32) 0), (5, .ptr (.cur 40) 0)] ⟨out, [(32, zeroP), (40, boxT t p (p.map (factS t)) t.acts)] ++ accO 296 9 1 ((p.map (factS t)).map tS) ++ accO 712 37 4 (t.acts.map (tActP p))⟩ (retW cx Try.f17.results.toList (resT t p)) := by
  refine CutX.mk ?_
  simp only [boxT]
  generalize hF : p.map (factS t) = F
  generalize hA : t.acts.map (tActP p) = A
  cases F <;> cases A
  all_goals
    refine Exists.intro [296, 712] ?_
    exact ⟨by rw [hF, hA]; rfl, by rw [hF, hA]; rfl⟩

theorem f17o_spec (t : Task) (n1 : Bool) (p : List Int) (ht : isB t = true) (hp : risingB p t.facts.length = true) (out : List Fr) (rest : rest17 3 (envT n1 p) ⟨out, [(16, .box (cellsTask t)), (32, zeroP), (40, boxT t p (p.map (factS t)) [])] ++ accO 296 9 1 ((p.map (factS t)).map tS)⟩ (retW cx Try.f17.results.toList (resT t p))) : SpecP Try.prog 17 [.task t, .ints n1 p] out (resT t p) := by
  have TK := task_ok ht
  have TL := task_l ht
  have hin := rising_in hp
  have hinit := (isB_parts.1 ht).2.2.1
  have hpl := rising_len hp (by have := TK.facts; omega)
  refine spec_walkH cx_ok mH_ok kq17 oq17 (fn := Try.f17) (by kernel_rfl) rfl (by kernel_rfl) rfl (by unfold FnOK; kernel_rfl) fun hok => ?_
  have rest := f17_facts t n1 p hin hpl out _ rest
  repeat' first
    | exact rest
    | refine And.intro rfl ?_
    | (refine SpecP.mono (f20f_spec n1 t.ni p t.init hp hinit hpl _) ?_; rintro _ _ ⟨rfl, rfl⟩)
    | (refine SpecP.mono (f43_spec n1 t.gn p t.goal hp hpl (TL.goal) _) ?_; rintro _ _ ⟨rfl, rfl⟩)
    | refine And.intro ?_ ?_

end Go.Fw

/- What the reference's functions do: the projection of a task, its actions. -/
namespace Go.Fw
open Go Go.Proofs
set_option maxRecDepth 10000

abbrev stT (t : Task) (p : List Int) (out : List Fr) (G : List ByteArray) (N : List Actn) (a : Actn) (eL : T) : St :=
  ⟨out, [(32, zeroP), (40, .box [accV 296 1 (G.map tS), .ints (factsL p t.init).isEmpty (factsL p t.init), .lits (litsL p t.goal).isEmpty (litsL p t.goal),
    .osl (.cur 712) 4 0 (N.map (tActP p) ++ [[.v (.string a.name), .v (.int .i64 a.cost), .sl (litsL p a.pre).isEmpty 2 ((litsL p a.pre).map tLit), eL]]).length])] ++ accO 296 9 1 (G.map tS) ++
    [(712, .row 37 4 (N.map (tActP p) ++ [[.v (.string a.name), .v (.int .i64 a.cost), .sl (litsL p a.pre).isEmpty 2 ((litsL p a.pre).map tLit), eL]]))]⟩
theorem stT_eq {t : Task} {p : List Int} {out : List Fr} {G : List ByteArray} {N : List Actn} {a : Actn} {eL : T} (he : eL = tE0 (projEs p a.effs)) :
    stT t p out G N a eL = ⟨out, [(32, zeroP), (40, boxT t p G (N ++ [a]))] ++ accO 296 9 1 (G.map tS) ++ accO 712 37 4 ((N ++ [a]).map (tActP p))⟩ := by
  subst he
  have e : (N ++ [a]).map (tActP p) = N.map (tActP p) ++ [tActP p a] := by simp
  unfold stT boxT
  rw [e, accV_ne (σ := 712) (sz := 4) (by simp), accO_ne (σ := 712) (sz := 4) (by simp)]
  rfl
theorem lits_one {p : List Int} {x : Lit} : litsL p [x] = if hasB p x.fact = true then [⟨posI p x.fact, x.neg⟩] else [] := by
  have := litsL_step (p := p) (l := [x]) (i := 0) (by simp)
  simpa [litsL] using this
set_option maxHeartbeats 2000000 in
/-- The actions. -/
theorem f17_acts (t : Task) (n1 : Bool) (p : List Int) (TK : TaskOK t) (TL : TaskL t) (hp : risingB p t.facts.length = true) (hpl : p.length ≤ 1000000000) (out : List Fr) (Q : Exit → Env → St → Prop) (F : List ByteArray)
    (fin : rest17 4 [(4, .ptr (.cur 32) 0), (5, .ptr (.cur 40) 0)] ⟨out, [(32, zeroP), (40, boxT t p F t.acts)] ++ accO 296 9 1 (F.map tS) ++ accO 712 37 4 (t.acts.map (tActP p))⟩ Q) :
    rest17 3 (envT n1 p) ⟨out, [(16, .box (cellsTask t)), (32, zeroP), (40, boxT t p F [])] ++ accO 296 9 1 (F.map tS)⟩ Q := by
  refine CutX.mk ?_
  have hal := TK.acts
  cases F
  case' nil => let G : List ByteArray := []
  case' cons x0 r0 => let G : List ByteArray := x0 :: r0
  all_goals
    refine LoopX.mk (Nat × List Actn) (fun u => u.1 ≤ t.acts.length ∧ u.2 = t.acts.take u.1) (fun u => [(1, .ints n1 p), (4, .ptr (.cur 32) 0), (5, .ptr (.cur 40) 0), (41, .t (.sl t.an 4 (t.acts.map tAct))), (42, .int (t.acts.map tAct).length), (43, .int u.1)])
      (fun u => ⟨out, [(32, zeroP), (40, boxT t p G u.2)] ++ accO 296 9 1 (G.map tS) ++ accO 712 37 4 (u.2.map (tActP p))⟩) (fun u => t.acts.length - u.1) (0, []) ⟨Nat.zero_le _, rfl⟩ ⟨rfl, rfl⟩ ?_
    rintro ⟨i, M⟩ ⟨hi0, hM⟩
    simp only at hi0 hM
    have hMl : M.length ≤ 1000 := by rw [hM, List.length_take]; omega
    cases M
    case' nil => let N : List Actn := []
    case' cons y r => let N : List Actn := y :: r
    all_goals
      refine And.intro (fun h1 => ?_) fun h1 => ?_
      rotate_left
      · have hi : i = t.acts.length := by have := ge_of_dec h1; have : i ≤ t.acts.length := hi0; omega
        rw [hi, List.take_length] at hM
        have hM' : N = t.acts := hM
        rw [← hM'] at fin
        exact fin
      have hi : i < t.acts.length := lt_of_dec h1
      have hem : t.acts[i] ∈ t.acts := List.getElem_mem hi
      have hel := TK.effs _ hem
      refine And.intro (by omega) (Exists.intro _ (And.intro (get_map hi) ?_))
      repeat' first
        | refine And.intro rfl ?_
        | (refine SpecP.mono (f43_spec n1 t.acts[i].pn p t.acts[i].pre hp hpl (TL.pre _ hem) _) ?_; rintro _ _ ⟨rfl, rfl⟩)
        | refine And.intro ?_ ?_
      all_goals
        refine LoopX.mk (Nat × List Eff) (fun u => u.1 ≤ t.acts[i].effs.length ∧ u.2 = projEs p (t.acts[i].effs.take u.1)) (fun u => [(1, .ints n1 p), (4, .ptr (.cur 32) 0), (5, .ptr (.cur 40) 0), (10, .ptr (.cur 80) 0), (41, .t (.sl t.an 4 (t.acts.map tAct))), (42, .int (t.acts.map tAct).length), (43, .int i),
            (57, .t (.sl t.acts[i].en 3 (t.acts[i].effs.map tEff))), (58, .int (t.acts[i].effs.map tEff).length), (59, .int u.1)])
          (fun u => ⟨out, [(32, zeroP), (40, boxT t p G N), (80, .box [.t (.v (.string t.acts[i].name)), .int t.acts[i].cost, .lits (litsL p t.acts[i].pre).isEmpty (litsL p t.acts[i].pre), accV 656 3 (u.2.map tEff)])] ++ accO 296 9 1 (G.map tS) ++ accO 712 37 4 (N.map (tActP p)) ++ accO 656 34 3 (u.2.map tEff)⟩)
          (fun u => t.acts[i].effs.length - u.1) (0, []) ⟨Nat.zero_le _, rfl⟩ ⟨rfl, rfl⟩ ?_
        rintro ⟨k, E⟩ ⟨hk0, hE⟩
        simp only at hk0 hE
        have hEl : E.length ≤ 100 := by rw [hE]; have := projEs_len p (t.acts[i].effs.take k); rw [List.length_take] at this; omega
        cases E
        case' nil => let O : List Eff := []
        case' cons z w => let O : List Eff := z :: w
        all_goals
          refine And.intro (fun h2 => ?_) fun h2 => ?_
          rotate_left
          · have hk : k = t.acts[i].effs.length := by have := ge_of_dec h2; have : k ≤ t.acts[i].effs.length := hk0; omega
            rw [hk, List.take_length] at hE
            have hE' : O = projEs p t.acts[i].effs := hE
            have hnew : N ++ [t.acts[i]] = t.acts.take (i + 1) := by rw [List.take_add_one, List.getElem?_eq_getElem hi, ← hM]; rfl
            have hl5 : ∀ X : List T, ((N.map (tActP p)) ++ [X]).length ≤ 1001 := fun X => by
              have : N.length ≤ 1000 := hMl
              rw [List.length_append, List.length_map, List.length_singleton]; omega
            repeat first
              | refine And.intro (Nat.le_of_ble_eq_true rfl) ?_
              | refine And.intro rfl ?_
              | refine And.intro (Nat.le_of_eq (Nat.zero_add _)) ?_
              | refine And.intro (Nat.le_trans (Nat.mul_le_mul_right _ (hl5 _)) (Nat.le_of_ble_eq_true rfl)) ?_
              | refine And.intro (Nat.le_trans (hl5 _) (Nat.le_of_ble_eq_true rfl)) ?_
            refine And.intro (by show (-9223372036854775808 : Int) ≤ (i : Int) + 1; omega) (And.intro (by show (i : Int) + 1 ≤ 9223372036854775807; omega) ?_)
            refine Exists.intro (i + 1, N ++ [t.acts[i]]) (And.intro (by show t.acts.length - (i + 1) < t.acts.length - i; omega) (And.intro ⟨hi, hnew⟩ ?_))
            first
              | exact And.intro rfl (Eq.trans rfl (stT_eq (t := t) (p := p) (out := out) (G := G) (N := N) (a := t.acts[i]) (eL := .sl true 0 []) (by rw [← hE']; rfl)))
              | exact And.intro rfl (Eq.trans rfl (stT_eq (t := t) (p := p) (out := out) (G := G) (N := N) (a := t.acts[i]) (eL := .sl false 3 (((tEff z :: w.map tEff).drop 0).take (tEff z :: w.map tEff).length)) (by rw [← hE', ← take_all]; rfl)))
          have hk : k < t.acts[i].effs.length := lt_of_dec h2
          have hek : t.acts[i].effs[k] ∈ t.acts[i].effs := List.getElem_mem hk
          have stp := projEs_step (p := p) hk
          rw [← hE] at stp
          refine And.intro (by omega) (Exists.intro _ (And.intro (get_map hk) ?_))
          refine Exists.intro [tLit t.acts[i].effs[k].lit] (And.intro rfl (And.intro (Nat.le_of_ble_eq_true rfl) ?_))
          have m43 := f43o_spec n1 false p [t.acts[i].effs[k].lit] hp hpl (Nat.le_of_ble_eq_true rfl)
          rw [lits_one] at m43
          cases h3 : hasB p t.acts[i].effs[k].lit.fact with
          | false =>
            rw [h3, if_neg Bool.noConfusion] at m43
            rw [h3, if_neg Bool.noConfusion, List.append_nil] at stp
            refine SpecP.mono (m43 _) ?_
            rintro _ _ ⟨rfl, rfl⟩
            refine And.intro trivial (And.intro trivial ?_)
            refine And.intro (fun h => Bool.noConfusion h) fun _ => ?_
            refine And.intro (by show (-9223372036854775808 : Int) ≤ (k : Int) + 1; omega) (And.intro (by show (k : Int) + 1 ≤ 9223372036854775807; omega) ?_)
            exact Exists.intro (k + 1, O) (And.intro (by show t.acts[i].effs.length - (k + 1) < t.acts[i].effs.length - k; omega) (And.intro ⟨hk, stp.symm⟩ (And.intro rfl rfl)))
          | true =>
            rw [h3, if_pos rfl] at m43
            rw [if_pos h3] at stp
            refine SpecP.mono (m43 _) ?_
            rintro _ _ ⟨rfl, rfl⟩
            refine And.intro trivial (And.intro ⟨flat_lits (b := [⟨posI p t.acts[i].effs[k].lit.fact, t.acts[i].effs[k].lit.neg⟩]), trivial⟩ ?_)
            refine And.intro (fun _ => ?_) fun h => Bool.noConfusion h
            refine And.intro (Int.le_refl 0) (And.intro (show (0 : Int) < ((1 : Nat) : Int) by decide) (Exists.intro (tLit ⟨posI p t.acts[i].effs[k].lit.fact, t.acts[i].effs[k].lit.neg⟩) (And.intro rfl (And.intro (Nat.le_refl 2) ?_))))
            have stp2 : O ++ [(⟨(litsL p t.acts[i].effs[k].when_).isEmpty, litsL p t.acts[i].effs[k].when_, ⟨posI p t.acts[i].effs[k].lit.fact, t.acts[i].effs[k].lit.neg⟩⟩ : Eff)] = projEs p (t.acts[i].effs.take (k + 1)) := stp.symm
            generalize hb : t.acts[i].effs[k].lit.neg = b at *
            refine SpecP.mono (f43_spec n1 t.acts[i].effs[k].nil p t.acts[i].effs[k].when_ hp hpl (TL.whn _ hem _ hek) _) ?_
            rintro _ _ ⟨rfl, rfl⟩
            have hl4 : ∀ X : List T, ((O.map tEff) ++ [X]).length ≤ 101 := fun X => by
              have : O.length ≤ 100 := hEl
              rw [List.length_append, List.length_map, List.length_singleton]; omega
            repeat first
              | refine And.intro (Nat.le_of_ble_eq_true rfl) ?_
              | refine And.intro rfl ?_
              | refine And.intro (Nat.le_trans (Nat.mul_le_mul_right _ (hl4 _)) (Nat.le_of_ble_eq_true rfl)) ?_
              | refine And.intro (Nat.le_trans (hl4 _) (Nat.le_of_ble_eq_true rfl)) ?_
              | refine And.intro (Int.le_refl 0) ?_
              | refine And.intro (show (0 : Int) < ((1 : Nat) : Int) by decide) ?_
              | refine Exists.intro (tLit ⟨posI p t.acts[i].effs[k].lit.fact, b⟩) ?_
              | refine And.intro (Nat.le_refl 2) ?_
            refine And.intro (by show (-9223372036854775808 : Int) ≤ (k : Int) + 1; omega) (And.intro (by show (k : Int) + 1 ≤ 9223372036854775807; omega) ?_)
            first
              | exact Exists.intro (k + 1, [(⟨(litsL p t.acts[i].effs[k].when_).isEmpty, litsL p t.acts[i].effs[k].when_, ⟨posI p t.acts[i].effs[k].lit.fact, b⟩⟩ : Eff)]) (And.intro (by show t.acts[i].effs.length - (k + 1) < t.acts[i].effs.length - k; omega) (And.intro ⟨hk, stp2⟩ (And.intro rfl rfl)))
              | (refine Exists.intro (k + 1, z :: (w ++ [(⟨(litsL p t.acts[i].effs[k].when_).isEmpty, litsL p t.acts[i].effs[k].when_, ⟨posI p t.acts[i].effs[k].lit.fact, b⟩⟩ : Eff)])) (And.intro (by show t.acts[i].effs.length - (k + 1) < t.acts[i].effs.length - k; omega) (And.intro ⟨hk, stp2⟩ ?_))
                 have e : (w ++ [(⟨(litsL p t.acts[i].effs[k].when_).isEmpty, litsL p t.acts[i].effs[k].when_, ⟨posI p t.acts[i].effs[k].lit.fact, b⟩⟩ : Eff)]).map tEff = w.map tEff ++ [tEff ⟨(litsL p t.acts[i].effs[k].when_).isEmpty, litsL p t.acts[i].effs[k].when_, ⟨posI p t.acts[i].effs[k].lit.fact, b⟩⟩] := by simp
                 simp only [List.map_cons, e]
                 exact And.intro rfl rfl)

theorem f17_spec (t : Task) (n1 : Bool) (p : List Int) (ht : isB t = true) (hp : risingB p t.facts.length = true) (out : List Fr) : SpecP Try.prog 17 [.task t, .ints n1 p] out fun r ro => r = .task (projT t p) ∧ ro = [] :=
  (f17o_spec t n1 p ht hp out (f17_acts t n1 p (task_ok ht) (task_l ht) hp (rising_len hp (by have := (task_ok ht).facts; omega)) out _ _ (f17_fin t p out))).close fun r ro ⟨h1, h2⟩ => by
    refine ⟨_, ?_, rfl, rfl⟩
    rw [h1]
    have a1 := acc_cls (s := 296) (e := 9) (sz := 1) (es := (p.map (factS t)).map tS) (ro := ro) fun x r he => by rw [h2, he]; exact look_cons .. |>.trans (if_pos rfl)
    have a2 := acc_cls (s := 712) (e := 37) (sz := 4) (es := t.acts.map (tActP p)) (ro := ro) fun x r he => by rw [h2, look_acc (by decide), he]; exact look_cons .. |>.trans (if_pos rfl)
    rw [show ((p.map (factS t)).map tS).isEmpty = p.isEmpty by cases p <;> rfl] at a1
    rw [show (t.acts.map (tActP p)).isEmpty = t.acts.isEmpty by cases t.acts <;> rfl] at a2
    refine .agg _ [.t (.sl p.isEmpty 1 ((p.map (factS t)).map tS)), .t (.sl (factsL p t.init).isEmpty 1 ((factsL p t.init).map tI)), .t (.sl (litsL p t.goal).isEmpty 2 ((litsL p t.goal).map tLit)), .t (.sl t.acts.isEmpty 4 ((t.acts.map (projA p)).map tAct))] rfl fun i x y hx hy => ?_
    match i with
    | 0 => simp at hx hy; subst hx hy; rw [List.map_map] at a1; exact a1
    | 1 => simp at hx hy; subst hx hy; exact .same _
    | 2 => simp at hx hy; subst hx hy; exact .same _
    | 3 =>
      simp only [List.getElem?_cons_succ, List.getElem?_cons_zero, Option.some.injEq] at hx hy; subst hx hy
      refine .trans _ _ _ a2 (.un _ _ ?_)
      cases t.acts with
      | nil => rfl
      | cons a r => simp only [List.isEmpty_cons, un_sl]; rw [un_acts (a :: r)]
    | i + 4 => simp at hx

end Go.Fw

/- What the reference's functions do: tasks that are alike. -/
namespace Go.Fw
open Go Go.Proofs
set_option maxRecDepth 10000

structure SameA (a b : Actn) : Prop where
  name : a.name = b.name
  cost : a.cost = b.cost
  pre : a.pre = b.pre
  len : a.effs.length = b.effs.length
  eff : ∀ k (h1 : k < a.effs.length) (h2 : k < b.effs.length), a.effs[k].lit = b.effs[k].lit ∧ a.effs[k].when_ = b.effs[k].when_
structure SameT (t u : Task) : Prop where
  facts : t.facts = u.facts
  init : t.init = u.init
  goal : t.goal = u.goal
  len : t.acts.length = u.acts.length
  acts : ∀ i (h1 : i < t.acts.length) (h2 : i < u.acts.length), SameA t.acts[i] u.acts[i]
theorem SameA.refl (a : Actn) : SameA a a := ⟨rfl, rfl, rfl, rfl, fun _ _ _ => ⟨rfl, rfl⟩⟩
theorem SameT.refl (t : Task) : SameT t t := ⟨rfl, rfl, rfl, rfl, fun _ _ _ => .refl _⟩

def kq42 : Kp := [(4, ([3, 37, 38, 39], [24]))]
def oq42 : Od := [(6, [(0, .pure), (1, .pure), (2, .pure), (3, .pure), (4, .pure), (5, .pure), (6, .pure), (7, .pure), (8, .pure), (9, .pure), (10, .pure), (11, .pure), (12, .pure), (13, .pure), (14, .pure), (15, .pure), (16, .pure), (17, .pure), (18, .eff), (19, .pure), (20, .pure)])]
theorem f42_spec (a b : Actn) (S : SameA a b) (out : List Fr) : SpecP Try.prog 42 [.act a, .act b] out fun r ro => r = .bool true ∧ ro = [] := by
  refine spec_body cx_ok kq42 oq42 (fn := Try.f42) (by kernel_rfl) rfl (by kernel_rfl) rfl (by unfold FnOK; kernel_rfl) fun hok => ?_
  have hmx := le_max hok.2.1.2.2.2.1.1
  have hle := S.len
  refine And.intro (fun h => absurd h (by rw [S.name]; simp)) fun _ => ?_
  refine And.intro (fun h => absurd h (by rw [S.cost]; simp)) fun _ => ?_
  refine SpecP.mono (f41_spec a.pn b.pn a.pre b.pre []) ?_
  rintro _ _ ⟨rfl, rfl⟩
  refine And.intro (fun _ => ?_) fun h => absurd h (by simp [S.pre])
  refine And.intro (fun h => absurd h (by simp [S.len])) fun _ => ?_
  refine LoopW.mk Nat (fun i => i ≤ a.effs.length) (fun i => [(3, .ptr (.cur 24) 0), (37, .t (.sl a.en 3 (a.effs.map tEff))), (38, .int (a.effs.map tEff).length), (39, .int i)])
    (fun _ => ⟨out, [(24, .box (cellsAct b))]⟩) (fun i => a.effs.length - i) 0 (Nat.zero_le _) ⟨rfl, rfl⟩ fun i hi0 => ?_
  refine And.intro (fun h1 => ?_) fun h1 => ?_
  · have hi : i < a.effs.length := lt_of_dec h1
    have hib : i < b.effs.length := by omega
    obtain ⟨e1, e2⟩ := S.eff i hi hib
    refine And.intro (by omega) (Exists.intro _ (And.intro (get_map hi) ?_))
    refine And.intro (by omega) (Exists.intro _ (And.intro (get_map hib) ?_))
    refine And.intro (fun h => absurd h (by rw [e1]; simp)) fun _ => ?_
    refine And.intro (by omega) (Exists.intro _ (And.intro (get_map hib) ?_))
    refine SpecP.mono (f41_spec a.effs[i].nil b.effs[i].nil a.effs[i].when_ b.effs[i].when_ []) ?_
    rintro _ _ ⟨rfl, rfl⟩
    refine And.intro ⟨rfl, rfl, rfl⟩ ?_
    refine And.intro (fun _ => ?_) fun h => absurd h (by simp [e2])
    refine And.intro (by omega) (And.intro (by omega) ?_)
    exact Exists.intro (i + 1) (And.intro (by show a.effs.length - (i + 1) < a.effs.length - i; omega) (And.intro hi (And.intro rfl rfl)))
  · exact Exists.intro [] ⟨rfl, rfl⟩

def kq15 : Kp := [(4, ([2, 3, 42, 43, 44], [16, 24])), (10, ([3, 58, 59, 60], [24]))]
def oq15 : Od := [(12, [(0, .pure), (1, .pure), (2, .pure), (3, .pure), (4, .pure), (5, .pure), (6, .eff), (7, .pure)])]
theorem f15_spec (t u : Task) (S : SameT t u) (out : List Fr) : SpecP Try.prog 15 [.task t, .task u] out fun r ro => r = .bool true ∧ ro = [] := by
  refine spec_body cx_ok kq15 oq15 (fn := Try.f15) (by kernel_rfl) rfl (by kernel_rfl) rfl (by unfold FnOK; kernel_rfl) fun hok => ?_
  have hmf := le_max hok.2.1.1.1
  have hma := le_max hok.2.1.2.2.2.1.1
  have hlf : t.facts.length = u.facts.length := by rw [S.facts]
  have hla := S.len
  refine And.intro (fun h => absurd h (by simp [S.facts])) fun _ => ?_
  refine SpecP.mono (f19_spec t.ni u.ni t.init u.init []) ?_
  rintro _ _ ⟨rfl, rfl⟩
  refine And.intro (fun _ => ?_) fun h => absurd h (by simp [S.init])
  refine SpecP.mono (f41_spec t.gn u.gn t.goal u.goal []) ?_
  rintro _ _ ⟨rfl, rfl⟩
  refine And.intro (fun _ => ?_) fun h => absurd h (by simp [S.goal])
  refine And.intro (fun h => absurd h (by simp [S.len])) fun _ => ?_
  refine LoopW.mk Nat (fun i => i ≤ t.facts.length) (fun i => [(2, .ptr (.cur 16) 0), (3, .ptr (.cur 24) 0), (42, .t (.sl t.fn 1 (t.facts.map tS))), (43, .int (t.facts.map tS).length), (44, .int i)])
    (fun _ => ⟨out, [(16, .box (cellsTask t)), (24, .box (cellsTask u))]⟩) (fun i => t.facts.length - i) 0 (Nat.zero_le _) ⟨rfl, rfl⟩ fun i hi0 => ?_
  refine And.intro (fun h1 => ?_) fun h1 => ?_
  · have hi : i < t.facts.length := lt_of_dec h1
    have hiu : i < u.facts.length := by omega
    have e : t.facts[i] = u.facts[i] := by simp [S.facts]
    refine And.intro (by omega) (Exists.intro _ (And.intro (get_map hi) ?_))
    refine And.intro (by omega) (Exists.intro _ (And.intro (get_map hiu) ?_))
    refine And.intro (fun h => absurd h (by rw [e]; simp)) fun _ => ?_
    refine And.intro (by omega) (And.intro (by omega) ?_)
    exact Exists.intro (i + 1) (And.intro (by show t.facts.length - (i + 1) < t.facts.length - i; omega) (And.intro hi (And.intro rfl rfl)))
  refine LoopW.mk Nat (fun i => i ≤ t.acts.length) (fun i => [(3, .ptr (.cur 24) 0), (58, .t (.sl t.an 4 (t.acts.map tAct))), (59, .int (t.acts.map tAct).length), (60, .int i)])
    (fun _ => ⟨out, [(24, .box (cellsTask u))]⟩) (fun i => t.acts.length - i) 0 (Nat.zero_le _) ⟨rfl, rfl⟩ fun i hi0 => ?_
  refine And.intro (fun h1 => ?_) fun h1 => ?_
  · have hi : i < t.acts.length := lt_of_dec h1
    have hiu : i < u.acts.length := by omega
    refine And.intro (by omega) (Exists.intro _ (And.intro (get_map hi) ?_))
    refine And.intro (by omega) (Exists.intro _ (And.intro (get_map hiu) ?_))
    refine SpecP.mono (f42_spec t.acts[i] u.acts[i] (S.acts i hi hiu) []) ?_
    rintro _ _ ⟨rfl, rfl⟩
    refine And.intro ⟨rfl, rfl, rfl⟩ ?_
    refine And.intro (fun _ => ?_) fun h => absurd h (by decide)
    refine And.intro (by omega) (And.intro (by omega) ?_)
    exact Exists.intro (i + 1) (And.intro (by show t.acts.length - (i + 1) < t.acts.length - i; omega) (And.intro hi (And.intro rfl rfl)))
  · exact Exists.intro [] ⟨rfl, rfl⟩

end Go.Fw

/- The law of projected tasks and states. -/
namespace Go.Fw
open Go Go.Proofs
set_option maxRecDepth 10000

def zT : Task := ⟨true, [], true, [], true, [], true, []⟩
theorem zero_vals {β : K → Nat} {RO : Nat → Prop} {w : World} {v : Value} (h : VL β RO w (.agg [.t (.sl true 0 []), .t (.sl true 0 []), .t (.sl true 0 []), .t (.sl true 0 [])]) v) : VL β RO w (.task zT) v := by
  cases h with
  | agg _ vs hl hc h1 =>
  refine .agg _ vs hl (fun i x u hx hu => ?_) h1
  match i with
  | 0 => simp [zT] at hx; subst hx; have := hc 0 _ u rfl hu; cases this with | t _ _ h => exact .t _ _ (h.un _ rfl)
  | 1 => simp [zT] at hx; subst hx; have := hc 1 _ u rfl hu; cases this with | t _ _ h => exact .t _ _ (h.un _ rfl)
  | 2 => simp [zT] at hx; subst hx; have := hc 2 _ u rfl hu; cases this with | t _ _ h => exact .t _ _ (h.un _ rfl)
  | 3 => simp [zT] at hx; subst hx; have := hc 3 _ u rfl hu; cases this with | t _ _ h => exact .t _ _ (h.un _ rfl)
  | i + 4 => simp at hx
theorem f15z_spec (out : List Fr) : SpecP Try.prog 15 [.agg [.t (.sl true 0 []), .t (.sl true 0 []), .t (.sl true 0 []), .t (.sl true 0 [])], .agg [.t (.sl true 0 []), .t (.sl true 0 []), .t (.sl true 0 []), .t (.sl true 0 [])]] out fun r ro => r = .bool true ∧ ro = [] :=
  SpecP.conv (args' := [.task zT, .task zT]) (fun β RO w vals hv => ⟨hv.1, fun i z v hz hvz => by
    match i with
    | 0 => simp at hz; subst hz; exact zero_vals (hv.2 0 _ v rfl hvz)
    | 1 => simp at hz; subst hz; exact zero_vals (hv.2 1 _ v rfl hvz)
    | i + 2 => simp at hz⟩) (f15_spec zT zT (.refl _) out)
theorem asks_bad {t : Task} {w : Bool} {l : List (Bool × List Int)} (h : isB t = false) : asksI t w l = 10 := by rw [asksI, if_neg (by rw [h]; exact Bool.noConfusion)]
theorem given_bad {t : Task} {s : List Int} {l : List (Bool × List Int)} (h : isB t = false) : givenI t s l = 10 := by
  have : fineI t s = 10 := by rw [fineI, if_neg (by rw [h]; exact Bool.noConfusion)]
  rw [givenI, this]; rfl

def oq4 : Od := [(8, [(0, .pure), (1, .pure), (2, .pure), (3, .pure), (4, .pure), (5, .pure), (6, .pure), (7, .pure), (8, .pure), (9, .eff), (10, .pure), (11, .pure), (12, .pure), (13, .pure), (14, .pure), (15, .pure), (16, .pure), (17, .pure), (18, .pure), (19, .pure), (20, .pure), (21, .pure), (22, .pure), (23, .eff), (24, .eff), (25, .pure), (26, .pure), (27, .pure), (28, .pure)])]
set_option maxHeartbeats 2000000 in
theorem f4_spec (t : Task) (n1 n2 : Bool) (p s : List Int) (out : List Fr) : SpecP Try.prog 4 [.task t, .ints n1 p, .ints n2 s] out fun r ro => r = .bool true ∧ ro = [] := by
  refine spec_body cx_ok [] oq4 (fn := Try.f4) (by kernel_rfl) rfl (by kernel_rfl) rfl (by unfold FnOK; kernel_rfl) fun hok => ?_
  refine SpecP.mono (f10_spec t 300 _) ?_
  rintro _ _ ⟨b0, rfl, rfl⟩
  refine And.intro (fun _ => ?_) fun _ => ?_
  rotate_left
  · refine SpecP.mono (f7_spec _) ?_
    rintro _ _ ⟨rfl, rfl⟩
    exact And.intro (fun _ => Exists.intro [] (ret_bool rfl rfl)) fun h => Bool.noConfusion h
  refine Exists.intro (tLs [(n1, p), (n2, s)]) (And.intro rfl (And.intro (Nat.le_of_ble_eq_true rfl) ?_))
  refine SpecP.mono (f11_spec false [(n1, p), (n2, s)] _) ?_
  rintro _ _ ⟨b1, rfl, rfl⟩
  refine And.intro trivial (And.intro trivial ?_)
  refine And.intro (fun _ => ?_) fun _ => ?_
  rotate_left
  · refine SpecP.mono (f7_spec _) ?_
    rintro _ _ ⟨rfl, rfl⟩
    exact And.intro (fun _ => Exists.intro [] (ret_bool rfl rfl)) fun h => Bool.noConfusion h
  have hor : (isB t = false ∧ asksI t true [(n1, p)] = 10 ∧ givenI t s [(n1, p)] = 10) ∨ (isB t = true ∧ (asksI t true [(n1, p)] = 0 ∨ asksI t true [(n1, p)] = 1) ∧ (fineI t s = 0 ∨ fineI t s = 20)) := by
    cases hi : isB t with
    | false => exact .inl ⟨rfl, asks_bad hi, given_bad hi⟩
    | true =>
      refine .inr ⟨rfl, ?_, ?_⟩
      · rw [asksI, if_pos hi]; split
        · exact .inr rfl
        · exact .inl rfl
      · rw [fineI, if_pos hi]; split
        · exact .inl rfl
        · exact .inr rfl
  have m12 := f12_spec t n1 p
  have m13 := f13_spec t n1 n2 p s
  have m14 := f14_spec t
  rcases hor with ⟨hi, ha, hg⟩ | ⟨hi, ha, hf⟩
  · refine SpecP.mono (m12 _) ?_
    rintro r1 _ ⟨hr1, rfl⟩
    cases hr1 with
    | ok h => rw [ha] at h; cases h
    | bad h1 =>
    refine SpecP.mono (m13 _) ?_
    rintro r2 _ ⟨hr2, rfl⟩
    cases hr2 with
    | ok h => rw [hg] at h; cases h
    | bad h2 =>
    rw [ha, hg]
    rw [hi] at m14
    clear h1 h2
    repeat' first
      | refine And.intro (fun _ => ?_) fun h => Bool.noConfusion h
      | refine And.intro (fun h => Bool.noConfusion h) fun _ => ?_
      | (refine SpecP.mono (f7_spec _) ?_; rintro _ _ ⟨rfl, rfl⟩)
      | (refine SpecP.mono (f15z_spec _) ?_; rintro _ _ ⟨rfl, rfl⟩)
      | (refine SpecP.mono (m14 _) ?_; rintro _ _ ⟨rfl, rfl⟩)
      | refine And.intro ⟨rfl, rfl, rfl⟩ ?_
      | refine And.intro trivial ?_
      | refine Exists.intro (tLs [(n1, p)]) (And.intro rfl (And.intro (Nat.le_of_ble_eq_true rfl) ?_))
      | exact Exists.intro [] (ret_bool rfl rfl)
  rw [hi] at m14
  have m16 := f16_spec t false [(n1, p)] hi
  have m18 := f18_spec t n2 s
  rcases ha with ha | ha
  · obtain ⟨_, hp⟩ := asks_ok ha
    have hp : risingB p t.facts.length = true := by have := hp _ (List.mem_singleton.2 rfl); simp [fineB] at this; exact this.1
    have m17 := f17_spec t n1 p hi hp
    have hpl := rising_len hp (by have := (task_ok hi).facts; omega)
    rw [ha] at m16
    rcases hf with hf | hf
    · have hg : givenI t s [(n1, p)] = 0 := given_of hf ha
      have hs := (fine_zero hf).2
      have m20 := f20f_spec n1 n2 p s hp hs hpl
      have m19 := f19_spec (factsL p s).isEmpty (factsL p s).isEmpty (factsL p s) (factsL p s)
      rw [show (factsL p s == factsL p s) = true by simp] at m19
      rw [hf] at m18
      refine SpecP.mono (m12 _) ?_
      rintro r1 _ ⟨hr1, rfl⟩
      cases hr1 with
      | bad h => exact absurd ha h
      | ok h1 =>
      refine SpecP.mono (m13 _) ?_
      rintro r2 _ ⟨hr2, rfl⟩
      cases hr2 with
      | bad h => exact absurd hg h
      | ok h2 =>
      repeat' first
        | refine And.intro (fun _ => ?_) fun h => Bool.noConfusion h
        | refine And.intro (fun h => Bool.noConfusion h) fun _ => ?_
        | (refine SpecP.mono (f7_spec _) ?_; rintro _ _ ⟨rfl, rfl⟩)
        | (refine SpecP.mono (f15z_spec _) ?_; rintro _ _ ⟨rfl, rfl⟩)
        | (refine SpecP.mono (m14 _) ?_; rintro _ _ ⟨rfl, rfl⟩)
        | (refine SpecP.mono (m16 _) ?_; rintro _ _ ⟨rfl, rfl⟩)
        | (refine SpecP.mono (m18 _) ?_; rintro _ _ ⟨rfl, rfl⟩)
        | (refine SpecP.mono (m17 _) ?_; rintro _ _ ⟨rfl, rfl⟩)
        | (refine SpecP.mono (f15_spec _ _ (.refl _) _) ?_; rintro _ _ ⟨rfl, rfl⟩)
        | (refine SpecP.mono (m20 _) ?_; rintro _ _ ⟨rfl, rfl⟩)
        | (refine SpecP.mono (m19 _) ?_; rintro _ _ ⟨rfl, rfl⟩)
        | refine And.intro ⟨rfl, rfl, rfl⟩ ?_
        | refine And.intro trivial ?_
        | refine Exists.intro (tLs [(n1, p)]) (And.intro rfl (And.intro (Nat.le_of_ble_eq_true rfl) ?_))
        | exact Exists.intro [] (ret_bool rfl rfl)
    · have hg : givenI t s [(n1, p)] = 20 := by rw [givenI, hf]; rfl
      rw [hf] at m18
      refine SpecP.mono (m12 _) ?_
      rintro r1 _ ⟨hr1, rfl⟩
      cases hr1 with
      | bad h => exact absurd ha h
      | ok h1 =>
      refine SpecP.mono (m13 _) ?_
      rintro r2 _ ⟨hr2, rfl⟩
      cases hr2 with
      | ok h => rw [hg] at h; cases h
      | bad h2 =>
      rw [hg]
      repeat' first
        | refine And.intro (fun _ => ?_) fun h => Bool.noConfusion h
        | refine And.intro (fun h => Bool.noConfusion h) fun _ => ?_
        | (refine SpecP.mono (f7_spec _) ?_; rintro _ _ ⟨rfl, rfl⟩)
        | (refine SpecP.mono (f15z_spec _) ?_; rintro _ _ ⟨rfl, rfl⟩)
        | (refine SpecP.mono (m14 _) ?_; rintro _ _ ⟨rfl, rfl⟩)
        | (refine SpecP.mono (m16 _) ?_; rintro _ _ ⟨rfl, rfl⟩)
        | (refine SpecP.mono (m18 _) ?_; rintro _ _ ⟨rfl, rfl⟩)
        | (refine SpecP.mono (m17 _) ?_; rintro _ _ ⟨rfl, rfl⟩)
        | (refine SpecP.mono (f15_spec _ _ (.refl _) _) ?_; rintro _ _ ⟨rfl, rfl⟩)
        | refine And.intro ⟨rfl, rfl, rfl⟩ ?_
        | refine And.intro trivial ?_
        | refine Exists.intro (tLs [(n1, p)]) (And.intro rfl (And.intro (Nat.le_of_ble_eq_true rfl) ?_))
        | exact Exists.intro [] (ret_bool rfl rfl)
  · rw [ha] at m16
    have hg : givenI t s [(n1, p)] = if fineI t s = 0 then 1 else 20 := by
      rw [givenI, ha]; rcases hf with hf | hf <;> simp [hf]
    refine SpecP.mono (m12 _) ?_
    rintro r1 _ ⟨hr1, rfl⟩
    cases hr1 with
    | ok h => rw [ha] at h; cases h
    | bad h1 =>
    refine SpecP.mono (m13 _) ?_
    rintro r2 _ ⟨hr2, rfl⟩
    cases hr2 with
    | ok h => rw [hg] at h; split at h <;> cases h
    | bad h2 =>
    rw [ha, hg]
    clear h1 h2
    rcases hf with hf | hf
    · rw [hf] at m18 ⊢
      rw [if_pos rfl]
      repeat' first
        | refine And.intro (fun _ => ?_) fun h => Bool.noConfusion h
        | refine And.intro (fun h => Bool.noConfusion h) fun _ => ?_
        | (refine SpecP.mono (f7_spec _) ?_; rintro _ _ ⟨rfl, rfl⟩)
        | (refine SpecP.mono (f15z_spec _) ?_; rintro _ _ ⟨rfl, rfl⟩)
        | (refine SpecP.mono (m14 _) ?_; rintro _ _ ⟨rfl, rfl⟩)
        | (refine SpecP.mono (m16 _) ?_; rintro _ _ ⟨rfl, rfl⟩)
        | (refine SpecP.mono (m18 _) ?_; rintro _ _ ⟨rfl, rfl⟩)
        | refine And.intro ⟨rfl, rfl, rfl⟩ ?_
        | refine And.intro trivial ?_
        | refine Exists.intro (tLs [(n1, p)]) (And.intro rfl (And.intro (Nat.le_of_ble_eq_true rfl) ?_))
        | exact Exists.intro [] (ret_bool rfl rfl)
    · rw [hf] at m18 ⊢
      rw [if_neg (by decide)]
      repeat' first
        | refine And.intro (fun _ => ?_) fun h => Bool.noConfusion h
        | refine And.intro (fun h => Bool.noConfusion h) fun _ => ?_
        | (refine SpecP.mono (f7_spec _) ?_; rintro _ _ ⟨rfl, rfl⟩)
        | (refine SpecP.mono (f15z_spec _) ?_; rintro _ _ ⟨rfl, rfl⟩)
        | (refine SpecP.mono (m14 _) ?_; rintro _ _ ⟨rfl, rfl⟩)
        | (refine SpecP.mono (m16 _) ?_; rintro _ _ ⟨rfl, rfl⟩)
        | (refine SpecP.mono (m18 _) ?_; rintro _ _ ⟨rfl, rfl⟩)
        | refine And.intro ⟨rfl, rfl, rfl⟩ ?_
        | refine And.intro trivial ?_
        | refine Exists.intro (tLs [(n1, p)]) (And.intro rfl (And.intro (Nat.le_of_ble_eq_true rfl) ?_))
        | exact Exists.intro [] (ret_bool rfl rfl)

end Go.Fw

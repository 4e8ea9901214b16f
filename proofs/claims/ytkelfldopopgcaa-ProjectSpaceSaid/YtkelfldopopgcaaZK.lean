/- Projections of tasks. -/
import Derived.Test.YtkelfldopopgcaaZJ

/- What the program's functions do: the projection of a task. -/
namespace Go.Fw
open Go Go.Proofs
set_option maxRecDepth 10000

def projE (p : List Int) (e : Eff) : Eff := ⟨(litsL p e.when_).isEmpty, litsL p e.when_, ⟨posI p e.lit.fact, e.lit.neg⟩⟩
def projEs (p : List Int) (l : List Eff) : List Eff := (l.filter fun e => hasB p e.lit.fact).map (projE p)
def projA (p : List Int) (a : Actn) : Actn := ⟨a.name, a.cost, (litsL p a.pre).isEmpty, litsL p a.pre, (projEs p a.effs).isEmpty, projEs p a.effs⟩
def factS (t : Task) (x : Int) : ByteArray := t.facts.getD x.toNat ⟨#[]⟩
def projT (t : Task) (p : List Int) : Task := ⟨p.isEmpty, p.map (factS t), (factsL p t.init).isEmpty, factsL p t.init, (litsL p t.goal).isEmpty, litsL p t.goal, t.acts.isEmpty, t.acts.map (projA p)⟩
theorem projEs_step {p : List Int} {l : List Eff} {i : Nat} (hi : i < l.length) : projEs p (l.take (i + 1)) = projEs p (l.take i) ++ if hasB p l[i].lit.fact = true then [projE p l[i]] else [] := by
  rw [projEs, List.take_add_one, List.getElem?_eq_getElem hi, Option.toList_some, List.filter_append, List.map_append]
  simp only [projEs]
  cases h : hasB p l[i].lit.fact <;> simp [h]
theorem projEs_len (p : List Int) (l : List Eff) : (projEs p l).length ≤ l.length := by
  rw [projEs, List.length_map]; exact List.length_filter_le ..
theorem cond_len {l : List Lit} {n : Nat} (h : condB l n = true) (hn : n ≤ 200) : l.length ≤ 1000000000 := by
  have := rising_len (l := l.map Lit.fact) (n := (n : Int)) h (by omega)
  rwa [List.length_map] at this
/-- How long the lists of a valid task are. -/
structure TaskL (t : Task) : Prop where
  init : t.init.length ≤ 1000000000
  goal : t.goal.length ≤ 1000000000
  pre : ∀ a ∈ t.acts, a.pre.length ≤ 1000000000
  whn : ∀ a ∈ t.acts, ∀ e ∈ a.effs, e.when_.length ≤ 1000000000
theorem task_l {t : Task} (h : isB t = true) : TaskL t := by
  simp only [isB, Bool.and_eq_true, decide_eq_true_eq] at h
  obtain ⟨⟨⟨⟨⟨⟨h1, _⟩, h3⟩, h4⟩, h5⟩, h6⟩, _⟩ := h
  have ha : ∀ x ∈ t.acts, actB t.facts.length x = true := List.all_eq_true.1 h6
  have hp : ∀ x ∈ t.acts, ((0 ≤ x.cost ∧ x.cost ≤ 100000) ∧ condB x.pre t.facts.length = true) ∧ x.effs.length ≤ 100 ∧ ∀ e ∈ x.effs, effB t.facts.length e = true := fun x hx => by
    have := ha x hx
    simp only [actB, Bool.and_eq_true, decide_eq_true_eq] at this
    exact ⟨⟨⟨this.1.1.1.1, this.1.1.1.2⟩, this.1.1.2⟩, this.1.2, List.all_eq_true.1 this.2⟩
  refine ⟨rising_len h3 (by omega), cond_len h4 h1, fun x hx => cond_len (hp x hx).1.2 h1, fun x hx e he => ?_⟩
  have := (hp x hx).2.2 e he
  simp only [effB, Bool.and_eq_true, decide_eq_true_eq] at this
  exact cond_len this.1.1 h1

def kq34 : Kp := [(3, ([2, 4, 5, 6, 1], [0, 16, 32, 48, 137000459])), (4, ([2, 4, 5, 6, 27, 28, 29], [16, 32, 48, 137000459, 328])), (8, ([2, 4, 5, 6], [0, 16, 32, 48, 137000459, 328])), (21, ([4, 6], [0, 32, 48, 328, 768])),
  (9, ([4, 5, 6, 45, 46, 47], [32, 48, 137000459, 328, 768])), (13, ([4, 5, 6, 11, 45, 46, 47, 61, 62, 63], [32, 48, 137000459, 88, 328, 768, 712]))]
def oq34 : Od := [(2, [(0, .tree (.pure 0 (.pure 1 (.pure 2 (.pure 4 (.pure 5 (.pure 6 (.fork 3 (.fork 7 (.pure 8 (.eff 9 (.last 10 .done []))) [] (.last 9 (.last 7 (.pure 8 (.last 10 .done [])) []) [0, 1, 2, 4, 5, 6])) [4, 5, 6] (.last 9 (.last 3 (.last 7 (.pure 8 (.last 10 .done [])) []) [4, 5, 6]) [0, 1, 2, 4, 5, 6])))))))))]), (6, [(0, .tree (.pure 0 (.pure 1 (.pure 2 (.pure 3 (.pure 4 (.pure 5 (.pure 6 (.eff 7 (.last 8 (.pure 9 (.last 10 .done [])) [2, 3, 4]))))))))))]), (11, [(0, .tree (.pure 0 (.pure 1 (.pure 2 (.pure 3 (.pure 4 (.pure 5 (.pure 6 (.fork 7 (.pure 8 (.eff 9 (.last 10 .done []))) [0, 1, 2, 3] (.last 9 (.last 7 (.pure 8 (.last 10 .done [])) [0, 1, 2, 3]) [0, 1, 2, 3, 4, 5, 6]))))))))))]), (17, [(0, .tree (.pure 0 (.pure 1 (.pure 2 (.pure 3 (.pure 4 (.pure 6 (.pure 7 (.pure 8 (.pure 9 (.pure 10 (.last 5 (.pure 11 (.eff 12 (.last 13 (.pure 14 (.last 15 .done [])) [6, 7, 8, 9]))) [0, 1, 6, 7, 8, 9, 10]))))))))))))])]
def tailC : Nat → Code → Code
  | n + 1, .seq _ b => tailC n b
  | _, c => c
abbrev rest34 (k : Nat) (env : Env) (st : St) (Q : Exit → Env → St → Prop) : Prop := CutX (fun env st => wpcX cx Try.prog noY (modH Try.prog) 0 kq34 oq34 (tailC k (Try.f34.body.get!)) env st Q) env st
/-- Effects, and an action, as they are gathered. -/
def tE0 (E : List Eff) : T := .sl E.isEmpty (if E.isEmpty then 0 else 3) (E.map tEff)
def tActP (p : List Int) (a : Actn) : List T := [.v (.string a.name), .v (.int .i64 a.cost), .sl (litsL p a.pre).isEmpty 2 ((litsL p a.pre).map tLit), tE0 (projEs p a.effs)]
abbrev resP (t : Task) (p : List Int) : LV → Fr → Prop := fun r ro => r = .agg [accV 328 1 ((p.map (factS t)).map tS), .ints (factsL p t.init).isEmpty (factsL p t.init), .lits (litsL p t.goal).isEmpty (litsL p t.goal), accV 768 4 (t.acts.map (tActP p))] ∧
  ro = accO 328 9 1 ((p.map (factS t)).map tS) ++ accO 768 37 4 (t.acts.map (tActP p))
abbrev zeroP : Ob := .box [.t (.sl true 0 []), .t (.sl true 0 []), .t (.sl true 0 []), .t (.sl true 0 [])]
abbrev boxP (t : Task) (p : List Int) (F : List ByteArray) (A : List Actn) : Ob := .box [accV 328 1 (F.map tS), .ints (factsL p t.init).isEmpty (factsL p t.init), .lits (litsL p t.goal).isEmpty (litsL p t.goal), accV 768 4 (A.map (tActP p))]
abbrev envP : Env := [(2, .ptr (.cur 16) 0), (4, .ptr (.cur 32) 0), (5, .mpr (.cur 137000459)), (6, .ptr (.cur 48) 0)]

/-- The facts' names. -/
theorem f34_facts (t : Task) (n1 : Bool) (p : List Int) (hp : ∀ x ∈ p, 0 ≤ x ∧ x < (t.facts.length : Int)) (hpl : p.length ≤ 1000000000) (out : List Fr) (Q : Exit → Env → St → Prop)
    (rest8 : rest34 4 envP ⟨out, [(16, .box (cellsTask t)), (32, zeroP), (48, boxP t p (p.map (factS t)) []), (137000459, .mp (.int .i64) (kvP p))] ++ accO 328 9 1 ((p.map (factS t)).map tS)⟩ Q) :
    rest34 3 (envP ++ [(1, .ints n1 p)]) ⟨out, [(16, .box (cellsTask t)), (32, zeroP), (48, boxP t p [] []), (137000459, .mp (.int .i64) (kvP p))]⟩ Q := by
  refine CutX.mk ?_
  refine LoopX.mk (Nat × List ByteArray) (fun u => u.1 ≤ p.length ∧ u.2 = (p.take u.1).map (factS t)) (fun u => envP ++ [(27, .ints n1 p), (28, .int (p.map tI).length), (29, .int u.1)])
    (fun u => ⟨out, [(16, .box (cellsTask t)), (32, zeroP), (48, boxP t p u.2 []), (137000459, .mp (.int .i64) (kvP p))] ++ accO 328 9 1 (u.2.map tS)⟩) (fun u => p.length - u.1) (0, []) ⟨Nat.zero_le _, rfl⟩ ⟨rfl, rfl⟩ ?_
  rintro ⟨i, F⟩ ⟨hi0, hF⟩
  simp only at hi0 hF
  have hFl : F.length ≤ 1000000000 := by rw [hF, List.length_map, List.length_take]; omega
  cases F
  case' nil => let O : List ByteArray := []
  case' cons y r => let O : List ByteArray := y :: r
  all_goals
    refine And.intro (fun h1 => ?_) fun h1 => ?_
    rotate_left
    · have hi : i = p.length := by have := ge_of_dec h1; have : i ≤ p.length := hi0; omega
      rw [hi, List.take_length] at hF
      have hF' : O = p.map (factS t) := hF
      rw [← hF'] at rest8
      exact rest8
    have hi : i < p.length := lt_of_dec h1
    have hx := hp _ (List.getElem_mem hi)
    have hlt : p[i].toNat < t.facts.length := by omega
    have hg : (t.facts.map tS)[p[i].toNat]? = some (tS (factS t p[i])) := by
      rw [List.getElem?_map, List.getElem?_eq_getElem hlt, factS, List.getD_eq_getElem?_getD, List.getElem?_eq_getElem hlt]; rfl
    refine And.intro (by omega) (Exists.intro _ (And.intro (get_map hi) ?_))
    refine And.intro hx.1 (Exists.intro _ (And.intro hg ?_))
    have hl4 : ∀ X : List T, ((O.map tS) ++ [X]).length ≤ 1000000001 := fun X => by
      have : O.length ≤ 1000000000 := hFl
      rw [List.length_append, List.length_map, List.length_singleton]; omega
    have hnew : O ++ [factS t p[i]] = (p.take (i + 1)).map (factS t) := by
      rw [List.take_add_one, List.getElem?_eq_getElem hi, List.map_append, ← hF]; rfl
    repeat first
      | refine And.intro (Nat.le_of_ble_eq_true rfl) ?_
      | refine And.intro rfl ?_
      | refine And.intro (Nat.le_trans (Nat.mul_le_mul_right _ (hl4 _)) (Nat.le_of_ble_eq_true rfl)) ?_
      | refine And.intro (Nat.le_trans (hl4 _) (Nat.le_of_ble_eq_true rfl)) ?_
    refine And.intro (by show (-9223372036854775808 : Int) ≤ (i : Int) + 1; omega) (And.intro (by show (i : Int) + 1 ≤ 9223372036854775807; omega) ?_)
    first
      | exact Exists.intro (i + 1, [factS t p[i]]) (And.intro (by show p.length - (i + 1) < p.length - i; omega) (And.intro ⟨hi, hnew⟩ (And.intro rfl rfl)))
      | (refine Exists.intro (i + 1, y :: (r ++ [factS t p[i]])) (And.intro (by show p.length - (i + 1) < p.length - i; omega) (And.intro ⟨hi, hnew⟩ ?_))
         have e : (r ++ [factS t p[i]]).map tS = r.map tS ++ [tS (factS t p[i])] := by simp
         simp only [boxP, List.map_cons, e]
         exact And.intro rfl rfl)

abbrev stE (t : Task) (p : List Int) (out : List Fr) (G : List ByteArray) (N : List Actn) (a : Actn) (eL : T) : St :=
  ⟨out, [(32, zeroP), (48, .box [accV 328 1 (G.map tS), .ints (factsL p t.init).isEmpty (factsL p t.init), .lits (litsL p t.goal).isEmpty (litsL p t.goal),
    .osl (.cur 768) 4 0 (N.map (tActP p) ++ [[.v (.string a.name), .v (.int .i64 a.cost), .sl (litsL p a.pre).isEmpty 2 ((litsL p a.pre).map tLit), eL]]).length]), (137000459, .mp (.int .i64) (kvP p))] ++ accO 328 9 1 (G.map tS) ++
    [(768, .row 37 4 (N.map (tActP p) ++ [[.v (.string a.name), .v (.int .i64 a.cost), .sl (litsL p a.pre).isEmpty 2 ((litsL p a.pre).map tLit), eL]]))]⟩
theorem stE_eq {t : Task} {p : List Int} {out : List Fr} {G : List ByteArray} {N : List Actn} {a : Actn} {eL : T} (he : eL = tE0 (projEs p a.effs)) :
    stE t p out G N a eL = ⟨out, [(32, zeroP), (48, boxP t p G (N ++ [a])), (137000459, .mp (.int .i64) (kvP p))] ++ accO 328 9 1 (G.map tS) ++ accO 768 37 4 ((N ++ [a]).map (tActP p))⟩ := by
  subst he
  have e : (N ++ [a]).map (tActP p) = N.map (tActP p) ++ [tActP p a] := by simp
  unfold stE boxP
  rw [e, accV_ne (σ := 768) (sz := 4) (by simp), accO_ne (σ := 768) (sz := 4) (by simp)]
  rfl
set_option maxHeartbeats 2000000 in
/-- The actions. -/
theorem f34_acts (t : Task) (p : List Int) (TK : TaskOK t) (TL : TaskL t) (out : List Fr) (Q : Exit → Env → St → Prop) (F : List ByteArray)
    (fin : rest34 5 [(4, .ptr (.cur 32) 0), (6, .ptr (.cur 48) 0)] ⟨out, [(32, zeroP), (48, boxP t p F t.acts)] ++ accO 328 9 1 (F.map tS) ++ accO 768 37 4 (t.acts.map (tActP p))⟩ Q) :
    rest34 4 envP ⟨out, [(16, .box (cellsTask t)), (32, zeroP), (48, boxP t p F []), (137000459, .mp (.int .i64) (kvP p))] ++ accO 328 9 1 (F.map tS)⟩ Q := by
  refine CutX.mk ?_
  have hal := TK.acts
  cases F
  case' nil => let G : List ByteArray := []
  case' cons x0 r0 => let G : List ByteArray := x0 :: r0
  all_goals
    refine LoopX.mk (Nat × List Actn) (fun u => u.1 ≤ t.acts.length ∧ u.2 = t.acts.take u.1) (fun u => [(4, .ptr (.cur 32) 0), (5, .mpr (.cur 137000459)), (6, .ptr (.cur 48) 0), (45, .t (.sl t.an 4 (t.acts.map tAct))), (46, .int (t.acts.map tAct).length), (47, .int u.1)])
      (fun u => ⟨out, [(32, zeroP), (48, boxP t p G u.2), (137000459, .mp (.int .i64) (kvP p))] ++ accO 328 9 1 (G.map tS) ++ accO 768 37 4 (u.2.map (tActP p))⟩) (fun u => t.acts.length - u.1) (0, []) ⟨Nat.zero_le _, rfl⟩ ⟨rfl, rfl⟩ ?_
    rintro ⟨i, M⟩ ⟨hi0, hM⟩
    simp only at hi0 hM
    have hMl : M.length ≤ 1000 := by rw [hM, List.length_take]; omega
    cases M
    case' nil => let N : List Actn := []
    case' cons y r => let N : List Actn := y :: r
    all_goals
      refine And.intro (fun h1 => ?_) fun h1 => ?_
      rotate_left
      · have hi : i = t.acts.length := by have := ge_of_dec h1; have : i ≤ t.acts.length := hi0; omega
        rw [hi, List.take_length] at hM
        have hM' : N = t.acts := hM
        rw [← hM'] at fin
        exact fin
      have hi : i < t.acts.length := lt_of_dec h1
      have hem : t.acts[i] ∈ t.acts := List.getElem_mem hi
      have hel := TK.effs _ hem
      refine And.intro (by omega) (Exists.intro _ (And.intro (get_map hi) ?_))
      repeat' first
        | refine And.intro rfl ?_
        | (refine SpecP.mono (f62_spec t.acts[i].pn p t.acts[i].pre _ 137000459 rfl (TL.pre _ hem) _) ?_; rintro _ _ ⟨rfl, rfl⟩)
        | refine And.intro ?_ ?_
      all_goals
        refine LoopX.mk (Nat × List Eff) (fun u => u.1 ≤ t.acts[i].effs.length ∧ u.2 = projEs p (t.acts[i].effs.take u.1)) (fun u => [(4, .ptr (.cur 32) 0), (5, .mpr (.cur 137000459)), (6, .ptr (.cur 48) 0), (11, .ptr (.cur 88) 0), (45, .t (.sl t.an 4 (t.acts.map tAct))), (46, .int (t.acts.map tAct).length), (47, .int i),
            (61, .t (.sl t.acts[i].en 3 (t.acts[i].effs.map tEff))), (62, .int (t.acts[i].effs.map tEff).length), (63, .int u.1)])
          (fun u => ⟨out, [(32, zeroP), (48, boxP t p G N), (137000459, .mp (.int .i64) (kvP p)), (88, .box [.t (.v (.string t.acts[i].name)), .int t.acts[i].cost, .lits (litsL p t.acts[i].pre).isEmpty (litsL p t.acts[i].pre), accV 712 3 (u.2.map tEff)])] ++ accO 328 9 1 (G.map tS) ++ accO 768 37 4 (N.map (tActP p)) ++ accO 712 34 3 (u.2.map tEff)⟩)
          (fun u => t.acts[i].effs.length - u.1) (0, []) ⟨Nat.zero_le _, rfl⟩ ⟨rfl, rfl⟩ ?_
        rintro ⟨k, E⟩ ⟨hk0, hE⟩
        simp only at hk0 hE
        have hEl : E.length ≤ 100 := by rw [hE]; have := projEs_len p (t.acts[i].effs.take k); rw [List.length_take] at this; omega
        cases E
        case' nil => let O : List Eff := []
        case' cons z w => let O : List Eff := z :: w
        all_goals
          refine And.intro (fun h2 => ?_) fun h2 => ?_
          rotate_left
          · have hk : k = t.acts[i].effs.length := by have := ge_of_dec h2; have : k ≤ t.acts[i].effs.length := hk0; omega
            rw [hk, List.take_length] at hE
            have hE' : O = projEs p t.acts[i].effs := hE
            have hnew : N ++ [t.acts[i]] = t.acts.take (i + 1) := by rw [List.take_add_one, List.getElem?_eq_getElem hi, ← hM]; rfl
            have hl5 : ∀ X : List T, ((N.map (tActP p)) ++ [X]).length ≤ 1001 := fun X => by
              have : N.length ≤ 1000 := hMl
              rw [List.length_append, List.length_map, List.length_singleton]; omega
            repeat first
              | refine And.intro (Nat.le_of_ble_eq_true rfl) ?_
              | refine And.intro rfl ?_
              | refine And.intro (Nat.le_of_eq (Nat.zero_add _)) ?_
              | refine And.intro (Nat.le_trans (Nat.mul_le_mul_right _ (hl5 _)) (Nat.le_of_ble_eq_true rfl)) ?_
              | refine And.intro (Nat.le_trans (hl5 _) (Nat.le_of_ble_eq_true rfl)) ?_
            refine And.intro (by show (-9223372036854775808 : Int) ≤ (i : Int) + 1; omega) (And.intro (by show (i : Int) + 1 ≤ 9223372036854775807; omega) ?_)
            refine Exists.intro (i + 1, N ++ [t.acts[i]]) (And.intro (by show t.acts.length - (i + 1) < t.acts.length - i; omega) (And.intro ⟨hi, hnew⟩ ?_))
            first
              | exact And.intro rfl (Eq.trans rfl (stE_eq (t := t) (p := p) (out := out) (G := G) (N := N) (a := t.acts[i]) (eL := .sl true 0 []) (by rw [← hE']; rfl)))
              | exact And.intro rfl (Eq.trans rfl (stE_eq (t := t) (p := p) (out := out) (G := G) (N := N) (a := t.acts[i]) (eL := .sl false 3 (((tEff z :: w.map tEff).drop 0).take (tEff z :: w.map tEff).length)) (by rw [← hE', ← take_all]; rfl)))
          have hk : k < t.acts[i].effs.length := lt_of_dec h2
          have hek : t.acts[i].effs[k] ∈ t.acts[i].effs := List.getElem_mem hk
          have stp := projEs_step (p := p) hk
          rw [← hE] at stp
          refine And.intro (by omega) (Exists.intro _ (And.intro (get_map hk) ?_))
          refine Exists.intro _ (Exists.intro _ (And.intro (look_kvP p t.acts[i].effs[k].lit.fact) (And.intro (has_kvP p t.acts[i].effs[k].lit.fact) ?_)))
          refine And.intro (fun h3 => ?_) fun h3 => ?_
          rotate_left
          · have h3 : hasB p t.acts[i].effs[k].lit.fact = false := h3
            rw [h3, if_neg (by simp), List.append_nil] at stp
            refine And.intro (by show (-9223372036854775808 : Int) ≤ (k : Int) + 1; omega) (And.intro (by show (k : Int) + 1 ≤ 9223372036854775807; omega) ?_)
            exact Exists.intro (k + 1, O) (And.intro (by show t.acts[i].effs.length - (k + 1) < t.acts[i].effs.length - k; omega) (And.intro ⟨hk, stp.symm⟩ (And.intro rfl rfl)))
          have h3 : hasB p t.acts[i].effs[k].lit.fact = true := h3
          rw [if_pos h3] at stp
          refine And.intro (fun h4 => ?_) fun h4 => ?_
          case' refine_1 => let b : Bool := true
          case' refine_2 => let b : Bool := false
          all_goals
            replace h4 : t.acts[i].effs[k].lit.neg = b := h4
            rw [projE, h4] at stp
            refine SpecP.mono (f62_spec t.acts[i].effs[k].nil p t.acts[i].effs[k].when_ _ 137000459 rfl (TL.whn _ hem _ hek) _) ?_
            rintro _ _ ⟨rfl, rfl⟩
            have hl4 : ∀ X : List T, ((O.map tEff) ++ [X]).length ≤ 101 := fun X => by
              have : O.length ≤ 100 := hEl
              rw [List.length_append, List.length_map, List.length_singleton]; omega
            repeat first
              | refine And.intro (Nat.le_of_ble_eq_true rfl) ?_
              | refine And.intro rfl ?_
              | refine And.intro (by rw [h4]; rfl) ?_
              | refine And.intro (Nat.le_trans (Nat.mul_le_mul_right _ (hl4 _)) (Nat.le_of_ble_eq_true rfl)) ?_
              | refine And.intro (Nat.le_trans (hl4 _) (Nat.le_of_ble_eq_true rfl)) ?_
            refine And.intro (by show (-9223372036854775808 : Int) ≤ (k : Int) + 1; omega) (And.intro (by show (k : Int) + 1 ≤ 9223372036854775807; omega) ?_)
            first
              | exact Exists.intro (k + 1, [(⟨(litsL p t.acts[i].effs[k].when_).isEmpty, litsL p t.acts[i].effs[k].when_, ⟨posI p t.acts[i].effs[k].lit.fact, b⟩⟩ : Eff)]) (And.intro (by show t.acts[i].effs.length - (k + 1) < t.acts[i].effs.length - k; omega) (And.intro ⟨hk, stp.symm⟩ (And.intro rfl rfl)))
              | (refine Exists.intro (k + 1, z :: (w ++ [(⟨(litsL p t.acts[i].effs[k].when_).isEmpty, litsL p t.acts[i].effs[k].when_, ⟨posI p t.acts[i].effs[k].lit.fact, b⟩⟩ : Eff)])) (And.intro (by show t.acts[i].effs.length - (k + 1) < t.acts[i].effs.length - k; omega) (And.intro ⟨hk, stp.symm⟩ ?_))
                 have e : (w ++ [(⟨(litsL p t.acts[i].effs[k].when_).isEmpty, litsL p t.acts[i].effs[k].when_, ⟨posI p t.acts[i].effs[k].lit.fact, b⟩⟩ : Eff)]).map tEff = w.map tEff ++ [tEff ⟨(litsL p t.acts[i].effs[k].when_).isEmpty, litsL p t.acts[i].effs[k].when_, ⟨posI p t.acts[i].effs[k].lit.fact, b⟩⟩] := by simp
                 simp only [List.map_cons, e]
                 exact And.intro rfl rfl)

end Go.Fw

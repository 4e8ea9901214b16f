/- Estimates and relaxed plans, told as functions. -/
import Derived.Test.YtjmekjoomdblfaaZL
import Derived.Test.YtjmekjoomdblfaaZP

/- Estimates, told as a function of what they are made of. -/
namespace Go.Fw
open Go Go.Proofs Heap
set_option maxRecDepth 10000

/-- A fact's literal is offered. -/
def offF (s : List Int) (d : Dj) (x : Nat) : Dj := offer d (litN x (hasB s (x : Int))) 0 (-1)
/-- A rule without conditions that are open fires at once. -/
def ruleF (P : EP) (d : Dj) (i : Nat) : Dj := match P.rules[i]? with
  | some r => if (r.frm.length : Int) = 0 then offer { d with op := d.op.set i (r.frm.length : Int) } r.to (min farI (0 + r.cost)) (i : Int) else { d with op := d.op.set i (r.frm.length : Int) }
  | none => d
/-- A rule hears of a literal. -/
def hearF (P : EP) (add : Bool) (u : Int) (d : Dj) (i : Nat) : Dj := match P.rules[i]? with
  | some r => hear add d i r u
  | none => d
/-- One round of the search. -/
def roundF (P : EP) (add : Bool) (d : Dj) : Dj :=
  if 0 ≤ ev d.v (at_ d.q 0).1.toNat then { d with q := (popL d.q).take (d.q.length - 1) }
  else (waitsOf P P.rules.length (at_ d.q 0).1.toNat).foldl (hearF P add (at_ d.q 0).2) { d with v := d.v.set (at_ d.q 0).1.toNat (at_ d.q 0).2, order := d.order ++ [((at_ d.q 0).1.toNat : Int)], q := (popL d.q).take (d.q.length - 1) }
def iterF (f : Dj → Dj) : Nat → Dj → Dj
  | 0, d => d
  | n + 1, d => f (iterF f n d)
/-- The search comes from a state to another one. -/
def Runs (P : EP) (add : Bool) (d0 d : Dj) : Prop := ∃ n, d = iterF (roundF P add) n d0 ∧ ∀ m, m < n → (iterF (roundF P add) m d0).q ≠ []
theorem Runs.refl {P : EP} {add : Bool} (d : Dj) : Runs P add d d := ⟨0, rfl, fun _ h => absurd h (Nat.not_lt_zero _)⟩
theorem Runs.step {P : EP} {add : Bool} {d0 d d' : Dj} (h : Runs P add d0 d) (hq : d.q ≠ []) (he : roundF P add d = d') : Runs P add d0 d' := by
  obtain ⟨n, rfl, h2⟩ := h
  refine ⟨n + 1, he.symm, fun m hm => ?_⟩
  by_cases hmn : m = n
  · subst hmn; exact hq
  · exact h2 m (by omega)
theorem Runs.uniq {P : EP} {add : Bool} {d0 d d' : Dj} (h : Runs P add d0 d) (hq : d.q = []) (h' : Runs P add d0 d') (hq' : d'.q = []) : d = d' := by
  obtain ⟨n, rfl, h2⟩ := h
  obtain ⟨n', rfl, h2'⟩ := h'
  rcases Nat.lt_trichotomy n n' with h | h | h
  · exact absurd hq (h2' n h)
  · rw [h]
  · exact absurd hq' (h2 n' h)
def factsD (s : List Int) (d : Dj) (n : Nat) : Dj := (List.range n).foldl (offF s) d
def rulesD (P : EP) (d : Dj) (n : Nat) : Dj := (List.range n).foldl (ruleF P) d
theorem factsD_succ (s : List Int) (d : Dj) (n : Nat) : factsD s d (n + 1) = offF s (factsD s d n) n := by rw [factsD, List.range_succ, List.foldl_append]; rfl
theorem rulesD_succ (P : EP) (d : Dj) (n : Nat) : rulesD P d (n + 1) = ruleF P (rulesD P d n) n := by rw [rulesD, List.range_succ, List.foldl_append]; rfl
/-- Where the search begins. -/
def startD (t : Task) (s : List Int) : Dj := rulesD (epOf t s) (factsD s (dj0 (nT t) (mT t)) t.facts.length) (rulesX t).length
/-- What is found is this. -/
def DetE (t : Task) (s : List Int) (add : Bool) (d : Dj) : Prop := Runs (epOf t s) add (startD t s) d ∧ d.q = []
theorem DetE.uniq {t : Task} {s : List Int} {add : Bool} {d d' : Dj} (h : DetE t s add d) (h' : DetE t s add d') : d = d' := h.1.uniq h.2 h'.1 h'.2
abbrev PostD (t : Task) (s : List Int) (add : Bool) : LV → Fr → Prop := fun r ro => ∃ d, EstOK t s add d ∧ DetE t s add d ∧ r = .agg [.osl (.cur 280) 1 0 (nT t), .osl (.cur 296) 1 0 (nT t), accV 1248 1 (d.order.map tI)] ∧ ro = (280, rowI d.v) :: (296, rowI d.by_) :: accO 1248 3 1 (d.order.map tI)

theorem round_stale {P : EP} {add : Bool} {v by_ best O op sm : List Int} {q q' : List Heap.Item} {k : Nat} (hk : (at_ q 0).1 = (k : Int)) (hv : 0 ≤ ev v k) (hq : (popL q).take (q.length - 1) = q') :
    roundF P add ⟨v, by_, best, O, op, sm, q⟩ = ⟨v, by_, best, O, op, sm, q'⟩ := by
  unfold roundF
  simp only [hk, Int.toNat_natCast, hq]
  rw [if_pos hv]
theorem round_new {P : EP} {add : Bool} {v by_ best O op sm : List Int} {q q' : List Heap.Item} {k : Nat} {u : Int} {wl : List Nat} (hk : (at_ q 0).1 = (k : Int)) (hv : ev v k < 0) (hq : (popL q).take (q.length - 1) = q') (hu : (at_ q 0).2 = u) (hw : waitsOf P P.rules.length k = wl) :
    roundF P add ⟨v, by_, best, O, op, sm, q⟩ = wl.foldl (hearF P add u) ⟨v.set k u, by_, best, O ++ [(k : Int)], op, sm, q'⟩ := by
  unfold roundF
  simp only [hk, Int.toNat_natCast, hq, hu, hw]
  rw [if_neg (by omega)]
theorem fold_take {f : Dj → Nat → Dj} {d : Dj} {l : List Nat} {j : Nat} (hj : j < l.length) : (l.take (j + 1)).foldl f d = f ((l.take j).foldl f d) l[j] := by
  rw [List.take_add_one, List.getElem?_eq_getElem hj, List.foldl_append]; rfl
theorem hear_fire {P : EP} {add : Bool} {v by_ best O op sm : List Int} {q : List Heap.Item} {i : Nat} {r : Rule} {u SV : Int} (hr : P.rules[i]? = some r) (hSV : (if add = true then min farI (ev sm i + u) else max (ev sm i) u) = SV) (hz : ev op i - 1 = 0) :
    hearF P add u ⟨v, by_, best, O, op, sm, q⟩ i = offer ⟨v, by_, best, O, op.set i (ev op i - 1), sm.set i SV, q⟩ r.to (min farI (ev (sm.set i SV) i + r.cost)) (i : Int) := by
  unfold hearF
  simp only [hr]
  unfold hear upd
  simp only [hSV]
  rw [if_pos hz]
theorem hear_wait {P : EP} {add : Bool} {v by_ best O op sm : List Int} {q : List Heap.Item} {i : Nat} {r : Rule} {u SV : Int} (hr : P.rules[i]? = some r) (hSV : (if add = true then min farI (ev sm i + u) else max (ev sm i) u) = SV) (hz : ¬ ev op i - 1 = 0) :
    hearF P add u ⟨v, by_, best, O, op, sm, q⟩ i = ⟨v, by_, best, O, op.set i (ev op i - 1), sm.set i SV, q⟩ := by
  unfold hearF
  simp only [hr]
  unfold hear upd
  simp only [hSV]
  rw [if_neg hz]

end Go.Fw

/- What the program's functions do: estimates, the search, told as a function. -/
namespace Go.Fw
open Go Go.Proofs Heap
set_option maxRecDepth 10000

set_option maxHeartbeats 4000000 in
theorem f28d_main (t : Task) (s : List Int) (add : Bool) (ht : isB t = true) (o : List Fr) (d0 : Dj) (hst : Start t s add d0) (hd0 : d0 = startD t s) :
    rest28 13 (env33 t add) ⟨o, frEsO t (gridF (nT t) (waitsOf (epOf t s) (rulesX t).length)) (nT t) (mT t) d0⟩ (retW cxm Try.f28.results.toList (PostD t s add)) := by
  refine CutX.mk ?_
  have K := task_ok ht
  have hN := K.facts
  have hfl : (t.facts.map tS).length = t.facts.length := List.length_map ..
  have hnn : nT t = 2 * t.facts.length := by show 2 * (t.facts.map tS).length = _; rw [hfl]
  have hmm : mT t = (rulesX t).length := List.length_map ..
  have hPn : (epOf t s).n = nT t := hnn.symm
  have hPr : (epOf t s).rules.length = mT t := by simp [epOf]
  refine LoopX.mk (Dj × (Int × List Fr)) (fun p => Inv (epOf t s) add p.2.1 (fun _ => p.1.v) (fun _ => True) p.1 ∧ (∀ k, k < 2 * t.facts.length → holdsL s k = true → Tgt p.1 k 0) ∧ mu p.1 ≤ 200300 ∧ Runs (epOf t s) add d0 p.1)
    (fun _ => env33 t add) (fun p => ⟨p.2.2, frEsO t (gridF (nT t) (waitsOf (epOf t s) (rulesX t).length)) (nT t) (mT t) p.1⟩) (fun p => mu p.1) (d0, 0, o) ⟨hst.inv, hst.tgt, hst.mu, Runs.refl _⟩ (by clear hd0; obtain ⟨_, _, _, order, _, _, _⟩ := d0; cases order <;> exact CutX.mk ⟨rfl, rfl⟩) ?_
  rintro ⟨d, m, o⟩ ⟨hinv, htg, hmu, hrun⟩
  simp only at hinv htg hmu hrun
  have hql : d.q.length ≤ mu d := Nat.le_add_right _ _
  have hlen : d.v.length = nT t := hinv.lv.trans hPn
  have hleno : d.op.length = mT t := hinv.lop.trans hPr
  have hlens : d.sm.length = mT t := hinv.lsm.trans hPr
  have hlenb : d.best.length = nT t := hinv.lb.trans hPn
  have hleny : d.by_.length = nT t := hinv.lby.trans hPn
  have hpop := fun h0 => pop_spec (l := d.q) hinv.hp h0
  clear hst
  have hol : d.order.length ≤ nT t := nodup_len hinv.nd fun j x hj => let ⟨k, e1, e2, _⟩ := hinv.b1 j x hj; ⟨k, e1, by rw [← hPn]; exact e2⟩
  obtain ⟨v, by_, best, order, op, sm, q⟩ := d
  simp only at hol hql hlen hleno hlens hlenb hleny hpop
  cases order
  case' nil =>
    let O : List Int := []
  case' cons x r =>
    let O : List Int := x :: r
  all_goals
    refine InvH.val 103 86 m_len ?_
    refine ModH.mk [(3, 376)] (f103_spec q q.length) rfl rfl ⟨rfl, trivial⟩ ?_
    rintro _ _ ⟨rfl, rfl⟩
    refine And.intro rfl ?_
    refine And.intro (fun h1 => ?_) fun h1 => ?_
    · have hq0 : 0 < q.length := by have := of_decide_eq_true h1; omega
      have hqne : q ≠ [] := by rintro rfl; exact absurd hq0 (Nat.lt_irrefl 0)
      obtain ⟨p1, p2, p3, p4, p5⟩ := hpop hq0
      have hx0m : at_ q 0 ∈ q := p3.mem_iff.2 (List.mem_cons_self ..)
      obtain ⟨k, hk1, hk2, hk3, hk4, hk5, hk6⟩ := hinv.q1 _ hx0m
      have hat : at_ (popL q) (q.length - 1) = ((k : Int), (at_ q 0).2) := by rw [p2]; exact Prod.ext hk1 rfl
      have hq'l : ((popL q).take (q.length - 1)).length = q.length - 1 := by rw [List.length_take]; omega
      have hspec := f54_spec q hq0 (by omega)
      rw [hat] at hspec
      have hp4 : HP ((popL q).take (q.length - 1)) ((popL q).take (q.length - 1)).length := by rw [hq'l]; exact p4
      generalize hqq : (popL q).take (q.length - 1) = q' at *
      have hkn : k < nT t := by rw [← hPn]; exact hk2
      have hkv : k < v.length := by omega
      have hu0 : 0 ≤ (at_ q 0).2 := Int.le_trans hinv.m0 hk3
      have hmuq : ∀ (v' b1 b2 o1 s1 : List Int), mu ⟨v', b1, b2, o1, op, s1, q'⟩ + 1 = mu ⟨v, by_, best, O, op, sm, q⟩ := fun _ _ _ _ _ => by unfold mu; simp only; omega
      refine ModH.mk [(1, 384), (3, 376)] hspec rfl rfl ⟨rfl, rfl, trivial⟩ ?_
      rintro _ _ ⟨rfl, rfl⟩
      refine And.intro rfl ?_
      refine And.intro (by show (0 : Int) ≤ (k : Int); omega) (And.intro (by show (k : Int) < (nT t : Nat); omega) (Exists.intro _ (And.intro (getI hkv) ?_)))
      refine And.intro (fun h2 => ?_) fun h2 => ?_
      · have hkv0 : 0 ≤ ev v k := by have h2' : decide (ev v k ≥ 0) = true := h2; simpa using h2'
        have hi2 := pop_late hinv p3 hp4 p5 hk1 hkv0
        refine Exists.intro (⟨v, by_, best, O, op, sm, q'⟩, (at_ q 0).2, []) (And.intro ?_ (And.intro ⟨hi2, htg, ?_, hrun.step hqne (round_stale hk1 hkv0 hqq)⟩ (CutX.mk ⟨rfl, rfl⟩)))
        · have := hmuq v by_ best O sm
          show mu ⟨v, by_, best, O, op, sm, q'⟩ < mu ⟨v, by_, best, O, op, sm, q⟩
          omega
        · have := hmuq v by_ best O sm
          show mu ⟨v, by_, best, O, op, sm, q'⟩ ≤ 200300
          have hmu' : mu ⟨v, by_, best, O, op, sm, q⟩ ≤ 200300 := hmu
          omega
      have hkv0 : ev v k < 0 := by have h2' : decide (ev v k ≥ 0) = false := h2; simpa using h2'
      have hi2 := pop_new hinv p3 hp4 p5 hk1 hkv0 (fun _ => rfl)
      refine And.intro (by show (0 : Int) ≤ (k : Int); omega) (And.intro (by show (k : Int) < (nT t : Nat); omega) (Exists.intro _ (And.intro (getI hkv) (And.intro (Nat.le_refl 1) ?_))))
      have hol2 : O.length ≤ nT t := hol
      have hl9 : ∀ X : List T, ((O.map tI).take (O.map tI).length ++ [X]).length ≤ 100000 := fun X => by rw [List.take_length]; simp; omega
      have hg0 : (gridF (nT t) (waitsOf (epOf t s) (rulesX t).length))[0 + ((k : Nat) : Int).toNat]? = some (wR (waitsOf (epOf t s) (rulesX t).length k)) := by rw [Nat.zero_add, Int.toNat_natCast, gridF_get hkn]
      repeat first
        | refine And.intro (Nat.le_refl _) ?_
        | refine And.intro (Nat.le_trans (Nat.mul_le_mul_right _ (hl9 _)) (Nat.le_of_ble_eq_true rfl)) ?_
        | refine And.intro (Nat.le_trans (hl9 _) (Nat.le_of_ble_eq_true rfl)) ?_
        | refine And.intro (by show (0 : Int) ≤ (k : Int); omega) ?_
        | refine And.intro (by show (k : Int) < (nT t : Nat); omega) ?_
      refine Exists.intro _ (And.intro hg0 ?_)
      have hwm : ∀ i, i ∈ waitsOf (epOf t s) (rulesX t).length k → i < (rulesX t).length ∧ ∃ r, (epOf t s).rules[i]? = some r ∧ k ∈ r.frm := fun i hi => mem_waitsOf.1 hi
      have hwm2 : ∀ i r, (epOf t s).rules[i]? = some r → k ∈ r.frm → i ∈ waitsOf (epOf t s) (rulesX t).length k := fun i r hi hr => mem_waitsOf.2 ⟨by have := (List.getElem?_eq_some_iff.1 hi).1; rw [hPr, hmm] at this; exact this, r, hi, hr⟩
      have hwn : (waitsOf (epOf t s) (rulesX t).length k).Nodup := by
        unfold waitsOf List.Nodup
        exact List.Pairwise.filter _ List.nodup_range
      have hwl : (waitsOf (epOf t s) (rulesX t).length k).length ≤ 100000 := by
        unfold waitsOf
        have e1 := List.length_filter_le (fun i => match (epOf t s).rules[i]? with | some r => r.frm.contains k | none => false) (List.range (rulesX t).length)
        rw [List.length_range] at e1
        have e2 := rulesUp_len K t.acts.length
        have e3 : (rulesX t).length ≤ 100000 := by unfold rulesX; have := K.acts; omega
        exact Nat.le_trans e1 e3
      generalize hWk : waitsOf (epOf t s) (rulesX t).length k = wl at *
      generalize hu : (at_ q 0).2 = u at *
      have hnext : roundF (epOf t s) add ⟨v, by_, best, O, op, sm, q⟩ = wl.foldl (hearF (epOf t s) add u) ⟨v.set k u, by_, best, O ++ [(k : Int)], op, sm, q'⟩ := round_new hk1 hkv0 hqq hu (by rw [hPr, hmm]; exact hWk)
      have e1 : (O.map tI).take (O.map tI).length ++ [tI k] = (O ++ [(k : Int)]).map tI := by rw [List.take_length]; simp
      have hvfar : ∀ z, ev v z ≤ farI := fun z => (hinv.low z).2
      have hi2 : Inv (epOf t s) add u (vsN (epOf t s) k v (v.set k u)) (fun _ => True) ⟨v.set k u, by_, best, O ++ [(k : Int)], op, sm, q'⟩ := hi2
      have htg2 : ∀ z, z < 2 * t.facts.length → holdsL s z = true → Tgt ⟨v.set k u, by_, best, O ++ [(k : Int)], op, sm, q'⟩ z 0 := fun z hz1 hz2 => by
        have h3 : Tgt ⟨v, by_, best, O, op, sm, q⟩ z 0 := htg z hz1 hz2
        by_cases hkz : k = z
        · subst hkz
          left
          show 0 ≤ ev (v.set k u) k ∧ ev (v.set k u) k ≤ 0
          rw [ev_set hkv, if_pos rfl]
          rcases h3 with ⟨h4, _⟩ | ⟨_, h5, h6⟩
          · exact absurd h4 (Int.not_le.2 hkv0)
          · have := p5 _ (hinv.q2 k h5 hkv0)
            simp only at h6 this
            exact ⟨hu0, by omega⟩
        · unfold Tgt
          show (0 ≤ ev (v.set k u) z ∧ ev (v.set k u) z ≤ 0) ∨ (ev (v.set k u) z < 0 ∧ _)
          rw [ev_set hkv, if_neg hkz]
          exact h3
      have hmu2 : mu ⟨v.set k u, by_, best, O ++ [(k : Int)], op, sm, q'⟩ + 1 = mu ⟨v, by_, best, O, op, sm, q⟩ := hmuq _ _ _ _ _
      have hmu3 : mu ⟨v, by_, best, O, op, sm, q⟩ ≤ 200300 := hmu
      have hvlen : (v.set k u).length = nT t := by rw [List.length_set]; exact hlen
      clear hinv htg hmu hpop p1 p2 p3 p4 p5 hat hspec hp4 hmuq hg0 hl9
      cases wl
      case' nil => let V162 : LV := .t (.sl true 0 [])
      case' cons y l => let V162 : LV := .osl (.sub (.cur 320) (0 + ((k : Nat) : Int).toNat)) 1 0 ((y :: l).map fun z : Nat => tI (z : Int)).length
      case' nil => let WL : List Nat := []
      case' cons y l => let WL : List Nat := y :: l
      all_goals
        refine LoopX.mk (Nat × (List Int × (List Int × (List Int × (List Int × (List Heap.Item × List Fr))))))
          (fun p => p.1 ≤ WL.length ∧ Inv (epOf t s) add u (fun i => if i ∈ WL.take p.1 then v.set k u else vsN (epOf t s) k v (v.set k u) i) (fun _ => True) ⟨v.set k u, p.2.1, p.2.2.1, O ++ [(k : Int)], p.2.2.2.1, p.2.2.2.2.1, p.2.2.2.2.2.1⟩ ∧
            (∀ z, z < 2 * t.facts.length → holdsL s z = true → Tgt ⟨v.set k u, p.2.1, p.2.2.1, O ++ [(k : Int)], p.2.2.2.1, p.2.2.2.2.1, p.2.2.2.2.2.1⟩ z 0) ∧ mu ⟨v.set k u, p.2.1, p.2.2.1, O ++ [(k : Int)], p.2.2.2.1, p.2.2.2.2.1, p.2.2.2.2.2.1⟩ + 1 ≤ mu ⟨v, by_, best, O, op, sm, q⟩ ∧
            (⟨v.set k u, p.2.1, p.2.2.1, O ++ [(k : Int)], p.2.2.2.1, p.2.2.2.2.1, p.2.2.2.2.2.1⟩ : Dj) = (WL.take p.1).foldl (hearF (epOf t s) add u) ⟨v.set k u, by_, best, O ++ [(k : Int)], op, sm, q'⟩)
          (fun p => env33 t add ++ [(25, .ptr (.cur 200) 0), (162, V162), (163, .int WL.length), (164, .int p.1)])
          (fun p => ⟨p.2.2.2.2.2.2, (200, .box [.int k, .int u]) :: frEsR t (gridF (nT t) (waitsOf (epOf t s) (rulesX t).length)) (nT t) (mT t) ⟨v.set k u, p.2.1, p.2.2.1, O ++ [(k : Int)], p.2.2.2.1, p.2.2.2.2.1, p.2.2.2.2.2.1⟩ ((v.set k u).map tI) ((O ++ [(k : Int)]).map tI)⟩)
          (fun p => WL.length - p.1) (0, by_, best, op, sm, q', []) ⟨Nat.zero_le _, ?_, htg2, by show mu ⟨v.set k u, by_, best, O ++ [(k : Int)], op, sm, q'⟩ + 1 ≤ _; omega, rfl⟩ ⟨?_, ?_⟩ ?_
        · exact hi2
        · first
            | rfl
            | (have e : (WL.length : Int) = ((((y :: l).map fun z : Nat => tI (z : Int)).length : Nat) : Int) := by rw [List.length_map]
               show _ = env33 t add ++ [(25, .ptr (.cur 200) 0), (162, V162), (163, .int WL.length), (164, .int (0 : Nat))]
               rw [e]; rfl)
        · show _ = (⟨[], (200, .box [.int k, .int u]) :: frEsR t (gridF (nT t) (waitsOf (epOf t s) (rulesX t).length)) (nT t) (mT t) ⟨v.set k u, by_, best, O ++ [(k : Int)], op, sm, q'⟩ ((v.set k u).map tI) ((O ++ [(k : Int)]).map tI)⟩ : St)
          rw [← setI, ← e1]; rfl
        rintro ⟨j, by', best', op', sm', q2, o2⟩ ⟨hj0, hi3, htg3, hmu4, hrun2⟩
        simp only at hj0 hi3 htg3 hmu4 hrun2
        refine And.intro (fun h3 => ?_) fun h3 => ?_
        · first
            | exact absurd (Int.ofNat_lt.1 (of_decide_eq_true h3)) (Nat.not_lt_zero _)
            | skip
          all_goals
            have hj : j < WL.length := by have := of_decide_eq_true h3; omega
            have hjl : j ≤ 100000 := by have : WL.length ≤ 100000 := hwl; omega
            have hlw : ((y :: l).map fun z : Nat => tI (z : Int)).length = WL.length := List.length_map ..
            have hgj : ((y :: l).map fun z : Nat => tI (z : Int))[0 + ((j : Nat) : Int).toNat]? = some (tI ((WL[j] : Nat) : Int)) := by
              rw [Nat.zero_add, Int.toNat_natCast, List.getElem?_map]
              show Option.map _ (WL[j]?) = _
              rw [List.getElem?_eq_getElem hj]; rfl
            obtain ⟨hiR, r0, hr0, hkr0⟩ := hwm WL[j] (List.getElem_mem hj)
            obtain ⟨a, kk, fr, xa, R⟩ := rule_at ht s hiR
            have hr0e : r0 = ⟨a, kk, fr, xa.cost⟩ := Option.some.inj (hr0.symm.trans R.re)
            subst hr0e
            have hnot : WL[j] ∉ WL.take j := fun hm => by
              obtain ⟨q, hq, he⟩ := List.mem_take_iff_getElem.1 hm
              exact List.pairwise_iff_getElem.1 hwn q j (Nat.lt_of_lt_of_le hq (Nat.min_le_right _ _)) hj (Nat.lt_of_lt_of_le hq (Nat.min_le_left _ _)) he
            have hvsj : (fun i => if i ∈ WL.take j then v.set k u else vsN (epOf t s) k v (v.set k u) i) WL[j] = v := by
              show (if WL[j] ∈ WL.take j then _ else _) = _
              rw [if_neg hnot, vsN_eq R.re, if_pos hkr0]
            have hop' : op'.length = mT t := hi3.lop.trans hPr
            have hsm' : sm'.length = mT t := hi3.lsm.trans hPr
            have hiop : WL[j] < op'.length := by rw [hop', hmm]; exact hiR
            have hism : WL[j] < sm'.length := by rw [hsm', hmm]; exact hiR
            obtain ⟨⟨b1, b2⟩, b3, b4⟩ := cnt_bounds hi3 R.re trivial (fun z => by rw [show (if WL[j] ∈ WL.take j then v.set k u else vsN (epOf t s) k v (v.set k u) WL[j]) = v from hvsj]; exact hvfar z)
            simp only at b1 b2 b3 b4
            have hfrl : fr.length ≤ 400 := by
              have hsub : fr.length ≤ (List.range (2 * t.facts.length)).length := List.Nodup.length_le_of_subset R.nd fun y hy => List.mem_range.2 (R.frm y hy)
              rw [List.length_range] at hsub; omega
            obtain ⟨g1, g2⟩ := hear_inv (epOf_ok ht s) hi3 R.re trivial hvsj hkr0 (by rfl) hkv0 hkv
            refine And.intro (by show (0 : Int) ≤ (j : Int); omega) (And.intro (by show (j : Int) < ((((y :: l).map fun z : Nat => tI (z : Int)).length : Nat) : Int); rw [hlw]; omega) ?_)
            have hg0 : (gridF (nT t) (waitsOf (epOf t s) (rulesX t).length))[0 + ((k : Nat) : Int).toNat]? = some (.row ((y :: l).map fun z : Nat => tI (z : Int))) := by rw [Nat.zero_add, Int.toNat_natCast, gridF_get hkn, hWk]; rfl
            refine Exists.intro _ (And.intro hg0 (Exists.intro _ (And.intro hgj ?_)))
            have hib : ((WL[j] : Nat) : Int) < (mT t : Nat) := by rw [hmm]; omega
            refine And.intro (by omega) (And.intro hib (Exists.intro _ (And.intro (getI hiop) ?_)))
            refine And.intro (by show (-9223372036854775808 : Int) ≤ ev op' WL[j] - 1; omega) (And.intro (by show ev op' WL[j] - 1 ≤ 9223372036854775807; omega) ?_)
            refine And.intro (by omega) (And.intro hib (Exists.intro _ (And.intro (getI hiop) (And.intro (Nat.le_refl 1) ?_))))
            cases add
            case' false =>
              let SV : Int := if u > ev sm' WL[j] then u else ev sm' WL[j]
              have hSV : max (ev sm' WL[j]) u = SV := by simp only [SV]; split <;> omega
              have hSV0 : 0 ≤ SV ∧ SV ≤ farI := by rw [← hSV]; omega
              refine And.intro (by omega) (And.intro hib (Exists.intro _ (And.intro (getI hism) ?_)))
              refine And.intro (by omega) (And.intro hib (Exists.intro _ (And.intro (getI hism) (And.intro (Nat.le_refl 1) ?_))))
            case' true =>
              let SV : Int := if ev sm' WL[j] + u < 1099511627777 then ev sm' WL[j] + u else 1099511627777
              have hSV : min farI (ev sm' WL[j] + u) = SV := by simp only [SV]; unfold farI; split <;> omega
              have hSV0 : 0 ≤ SV ∧ SV ≤ farI := by rw [← hSV]; have : (0 : Int) ≤ farI := by decide
                                                   omega
              refine And.intro (by omega) (And.intro hib (Exists.intro _ (And.intro (getI hism) ?_)))
              refine And.intro (by show (-9223372036854775808 : Int) ≤ ev sm' WL[j] + u; omega) (And.intro (by show ev sm' WL[j] + u ≤ 9223372036854775807; unfold farI at *; omega) ?_)
              refine And.intro (by omega) (And.intro hib (Exists.intro _ (And.intro (getI hism) (And.intro (Nat.le_refl 1) ?_))))
            all_goals
              have hop1 : WL[j] < (op'.set WL[j] (ev op' WL[j] - 1)).length := by rw [List.length_set]; exact hiop
              have hgo : ((op'.map tI).set (0 + ((WL[j] : Nat) : Int).toNat) (tI (ev op' WL[j] - 1)))[0 + ((WL[j] : Nat) : Int).toNat]? = some (tI (ev op' WL[j] - 1)) := by
                rw [setI, getI hop1, ev_set hiop, if_pos rfl]
              refine And.intro (by omega) (And.intro hib (Exists.intro _ (And.intro hgo ?_)))
              have eop : ∀ z : Int, (op'.set WL[j] z).map tI = (op'.map tI).set (0 + ((WL[j] : Nat) : Int).toNat) (tI z) := fun z => setI.symm
              have esm : ∀ z : Int, (sm'.set WL[j] z).map tI = (sm'.map tI).set (0 + ((WL[j] : Nat) : Int).toNat) (tI z) := fun z => setI.symm
              refine And.intro (fun h4 => ?_) fun h4 => ?_
              · have hz : ev op' WL[j] - 1 = 0 := eq_of_beq h4
                unfold hear at g1 g2
                simp only [if_true, Bool.false_eq_true, if_false, hSV] at g1 g2
                rw [if_pos hz] at g1 g2
                have hsv : ev (sm'.set WL[j] SV) WL[j] = SV := by rw [ev_set hism, if_pos rfl]
                have hspec := f52_spec t (rulesX t).isEmpty (rulesX t) (nT t) (mT t) ⟨v.set k u, by', best', O ++ [(k : Int)], op'.set WL[j] (ev op' WL[j] - 1), sm'.set WL[j] SV, q2⟩ WL[j] a kk (fr.map Int.ofNat) xa
                  ⟨hvlen, hi3.lby.trans hPn, hi3.lb.trans hPn⟩ (by show (sm'.set _ _).length = _; rw [List.length_set]; exact hsm') R.rx R.act (by rw [hmm]; exact hiR) (by rw [hnn]; exact R.to)
                  (by have : q2.length ≤ mu ⟨v.set k u, by', best', O ++ [(k : Int)], op', sm', q2⟩ := Nat.le_add_right _ _
                      show q2.length < 1000000; omega) (by show 0 ≤ ev (sm'.set WL[j] SV) WL[j] ∧ ev (sm'.set WL[j] SV) WL[j] ≤ farI; rw [hsv]; exact hSV0) R.cost
                have g1' : Inv (epOf t s) _ u _ (fun _ => True) (offer ⟨v.set k u, by', best', O ++ [(k : Int)], op'.set WL[j] (ev op' WL[j] - 1), sm'.set WL[j] SV, q2⟩ kk (min farI (ev (sm'.set WL[j] SV) WL[j] + xa.cost)) (WL[j] : Int)) := g1
                have g2' : mu (offer ⟨v.set k u, by', best', O ++ [(k : Int)], op'.set WL[j] (ev op' WL[j] - 1), sm'.set WL[j] SV, q2⟩ kk (min farI (ev (sm'.set WL[j] SV) WL[j] + xa.cost)) (WL[j] : Int)) ≤ mu ⟨v.set k u, by', best', O ++ [(k : Int)], op', sm', q2⟩ := g2
                have htg4 : ∀ z, z < 2 * t.facts.length → holdsL s z = true → Tgt (offer ⟨v.set k u, by', best', O ++ [(k : Int)], op'.set WL[j] (ev op' WL[j] - 1), sm'.set WL[j] SV, q2⟩ kk (min farI (ev (sm'.set WL[j] SV) WL[j] + xa.cost)) (WL[j] : Int)) z 0 := fun z hz1 hz2 =>
                  offer_tgt (by show kk < best'.length; rw [show best'.length = nT t from hi3.lb.trans hPn, hnn]; exact R.to) (by rw [hsv]; exact Int.le_min.2 ⟨by decide, by have := R.cost.1; omega⟩) (htg3 z hz1 hz2)
                clear g1 g2
                obtain ⟨c1, c2, c3, he⟩ := offer_form (v.set k u) by' best' (O ++ [(k : Int)]) (op'.set WL[j] (ev op' WL[j] - 1)) (sm'.set WL[j] SV) q2 kk (min farI (ev (sm'.set WL[j] SV) WL[j] + xa.cost)) (WL[j] : Int)
                rw [he] at g1' g2' htg4
                simp only [he] at hspec
                simp only [frF, frO, rowI, esm] at hspec
                refine ModH.mkx ρF [(162, V162)] hspec rfl rfl (by repeat (first | exact trivial | refine And.intro rfl ?_)) ⟨⟨rfl, 320, 0 + ((k : Nat) : Int).toNat, 1, 0, _, .row 3 1 (WL.map fun z : Nat => tI (z : Int)), rfl, rfl, ?_⟩, trivial⟩ ?_
                · show (match (gridF (nT t) (waitsOf (epOf t s) (rulesX t).length))[0 + ((k : Nat) : Int).toNat]? with | some (.row es) => some (Ob.row 3 1 es) | _ => none) = _
                  rw [hg0]
                rintro _ _ ⟨rfl, rfl⟩
                refine And.intro rfl ?_
                refine And.intro (by show (-9223372036854775808 : Int) ≤ (j : Int) + 1; omega) (And.intro (by show (j : Int) + 1 ≤ 9223372036854775807; omega) ?_)
                have g3 : Inv (epOf t s) _ u (fun i => if i ∈ WL.take (j + 1) then v.set k u else vsN (epOf t s) k v (v.set k u) i) (fun _ => True) ⟨v.set k u, c1, c2, O ++ [(k : Int)], op'.set WL[j] (ev op' WL[j] - 1), sm'.set WL[j] SV, c3⟩ := g1'.vs fun i r hi _ => ⟨trivial, by rw [vsj_step hj]⟩
                refine Exists.intro (j + 1, c1, c2, op'.set WL[j] (ev op' WL[j] - 1), sm'.set WL[j] SV, c3, []) (And.intro (by show WL.length - (j + 1) < WL.length - j; omega) (And.intro ⟨hj, g3, htg4, Nat.le_trans (Nat.succ_le_succ g2') hmu4, by rw [fold_take hj, ← hrun2, hear_fire (SV := SV) R.re (by first | exact hSV | simpa using hSV) hz]; exact he.symm⟩ ⟨rfl, ?_⟩))
                show _ = (⟨[], (200, .box [.int k, .int u]) :: frEsR t (gridF (nT t) (waitsOf (epOf t s) (rulesX t).length)) (nT t) (mT t) ⟨v.set k u, c1, c2, O ++ [(k : Int)], op'.set WL[j] (ev op' WL[j] - 1), sm'.set WL[j] SV, c3⟩ ((v.set k u).map tI) ((O ++ [(k : Int)]).map tI)⟩ : St)
                simp only [frEsR, rowI, eop, esm]
                rfl
              · have hz : ¬ ev op' WL[j] - 1 = 0 := fun he => by
                  have : (ev op' WL[j] - 1 == 0) = false := h4
                  rw [he] at this; cases this
                unfold hear at g1 g2
                simp only [if_true, Bool.false_eq_true, if_false, hSV] at g1 g2
                rw [if_neg hz] at g1 g2
                have g3 : Inv (epOf t s) _ u (fun i => if i ∈ WL.take (j + 1) then v.set k u else vsN (epOf t s) k v (v.set k u) i) (fun _ => True) ⟨v.set k u, by', best', O ++ [(k : Int)], op'.set WL[j] (ev op' WL[j] - 1), sm'.set WL[j] SV, q2⟩ := g1.vs fun i r hi _ => ⟨trivial, by rw [vsj_step hj]⟩
                refine And.intro (by show (-9223372036854775808 : Int) ≤ (j : Int) + 1; omega) (And.intro (by show (j : Int) + 1 ≤ 9223372036854775807; omega) ?_)
                refine Exists.intro (j + 1, by', best', op'.set WL[j] (ev op' WL[j] - 1), sm'.set WL[j] SV, q2, o2) (And.intro (by show WL.length - (j + 1) < WL.length - j; omega) (And.intro ⟨hj, ?_, ?_, ?_, by rw [fold_take hj, ← hrun2, hear_wait (SV := SV) R.re (by first | exact hSV | simpa using hSV) hz]⟩ ⟨rfl, ?_⟩))
                · exact g3
                · exact htg3
                · show mu ⟨v.set k u, by', best', O ++ [(k : Int)], op'.set WL[j] (ev op' WL[j] - 1), sm'.set WL[j] SV, q2⟩ + 1 ≤ _
                  exact Nat.le_trans (Nat.succ_le_succ g2) hmu4
                · show _ = (⟨o2, (200, .box [.int k, .int u]) :: frEsR t (gridF (nT t) (waitsOf (epOf t s) (rulesX t).length)) (nT t) (mT t) ⟨v.set k u, by', best', O ++ [(k : Int)], op'.set WL[j] (ev op' WL[j] - 1), sm'.set WL[j] SV, q2⟩ ((v.set k u).map tI) ((O ++ [(k : Int)]).map tI)⟩ : St)
                  simp only [frEsR, rowI, eop, esm]
                  rfl
        · have hje : j = WL.length := by have := of_decide_eq_false h3; omega
          refine Exists.intro (⟨v.set k u, by', best', O ++ [(k : Int)], op', sm', q2⟩, u, o2) (And.intro (by show mu ⟨v.set k u, by', best', O ++ [(k : Int)], op', sm', q2⟩ < mu ⟨v, by_, best, O, op, sm, q⟩; omega) (And.intro ⟨hi3.vs fun i r hi _ => ⟨trivial, ?_⟩, htg3, by show mu ⟨v.set k u, by', best', O ++ [(k : Int)], op', sm', q2⟩ ≤ 200300; omega, hrun.step hqne (hnext.trans (by rw [hrun2, hje, List.take_length]))⟩ (CutX.mk ⟨rfl, rfl⟩)))
          rw [hje, List.take_length, vsN_eq hi]
          show v.set k u = _
          split
          · rfl
          · rename_i hni
            rw [if_neg]
            intro hkr
            exact hni (hwm2 i r hi hkr)
    · have hq0 : q = [] := by
        have h1' : ¬ ((q.length : Int) > 0) := of_decide_eq_false h1
        exact List.eq_nil_of_length_eq_zero (by omega)
      have hE : IsE (epOf t s) add v := end_isE hinv hq0 (fun _ => rfl) fun k hk hh => htg k hk hh
      exact Exists.intro [280, 296, 1248] ⟨⟨v, by_, best, O, op, sm, q⟩, ⟨hE, hleny.trans hnn, fun j x hj => by obtain ⟨k, e1, e2, e3⟩ := hinv.b1 j x hj; exact ⟨k, e1, e2, e3⟩, hinv.b3, hinv.nd, fun k => (hinv.low k).2⟩, ⟨by rw [← hd0]; exact hrun, hq0⟩, rfl, rfl⟩

end Go.Fw

/- What the program's functions do: estimates, what holds and the rules, told as a function. -/
namespace Go.Fw
open Go Go.Proofs Heap
set_option maxRecDepth 10000

theorem f28d_facts (t : Task) (n1 : Bool) (s : List Int) (add : Bool) (ht : isB t = true) (hs : risingB s t.facts.length = true) (out : List Fr) :
    rest28 9 (envEst t n1 s add) ⟨out, frEst t (List.replicate (nT t) .nil) (nT t) (mT t) (dj0 (nT t) (mT t))⟩ (retW cxm Try.f28.results.toList (PostD t s add)) := by
  refine CutX.mk ?_
  have K := task_ok ht
  have hN := K.facts
  have hfl : (t.facts.map tS).length = t.facts.length := List.length_map ..
  have hfi : ((t.facts.length : Nat) : Int) ≤ 200 := by omega
  refine LoopX.mk (Nat × (List Int × (List Int × (List Heap.Item × List Fr)))) (fun p => p.1 ≤ t.facts.length ∧ Inv (epOf t s) add 0 (fun _ => List.replicate (nT t) (-1)) (fun _ => False) ⟨List.replicate (nT t) (-1), p.2.1, p.2.2.1, [], List.replicate (mT t) 0, List.replicate (mT t) 0, p.2.2.2.1⟩ ∧
      (∀ k, k < 2 * p.1 → holdsL s k = true → Tgt ⟨List.replicate (nT t) (-1), p.2.1, p.2.2.1, [], List.replicate (mT t) 0, List.replicate (mT t) 0, p.2.2.2.1⟩ k 0) ∧ p.2.2.2.1.length ≤ p.1 ∧
      (⟨List.replicate (nT t) (-1), p.2.1, p.2.2.1, [], List.replicate (mT t) 0, List.replicate (mT t) 0, p.2.2.2.1⟩ : Dj) = factsD s (dj0 (nT t) (mT t)) p.1)
    (fun p => envEst t n1 s add ++ [(16, .ptr (.cur 128) 0), (17, fireV), (73, .int (t.facts.map tS).length), (74, .int p.1)])
    (fun p => ⟨p.2.2.2.2, frEsO t (List.replicate (nT t) .nil) (nT t) (mT t) ⟨List.replicate (nT t) (-1), p.2.1, p.2.2.1, [], List.replicate (mT t) 0, List.replicate (mT t) 0, p.2.2.2.1⟩⟩)
    (fun p => t.facts.length - p.1) (0, List.replicate (nT t) (-1), List.replicate (nT t) (-1), [], out) ⟨Nat.zero_le _, ?_, fun k hk => by omega, Nat.le_refl _, rfl⟩ ⟨rfl, rfl⟩ ?_
  · have := inv0 (epOf t s) add (fun _ => List.replicate (nT t) (-1))
    have e1 : (epOf t s).n = nT t := by show 2 * t.facts.length = 2 * (t.facts.map tS).length; rw [hfl]
    have e2 : (epOf t s).rules.length = mT t := by simp [epOf]
    rw [e1, e2] at this
    exact this
  rintro ⟨x, b1, b2, q, o⟩ ⟨hx0, hinv, htg, hq, hfd⟩
  simp only at hx0 hinv htg hq hfd
  refine And.intro (fun h1 => ?_) fun h1 => ?_
  · have hx : x < t.facts.length := by have := of_decide_eq_true h1; omega
    refine SpecP.mono (f53_spec n1 s t.facts.length x hs (by omega) []) ?_
    rintro _ _ ⟨p, rfl, rfl⟩
    have hbig : big (x : Int) := by unfold big; omega
    have hn : nT t = 2 * t.facts.length := by show 2 * (t.facts.map tS).length = _; rw [hfl]
    have hlen : LenD (nT t) ⟨List.replicate (nT t) (-1), b1, b2, [], List.replicate (mT t) 0, List.replicate (mT t) 0, q⟩ := ⟨by simp, by have := hinv.lby; simp only at this; rw [this]; exact hn.symm, by have := hinv.lb; simp only at this; rw [this]; exact hn.symm⟩
    have main : ∀ b : Bool, hasB s x = b → ∃ c1 c2 q', SpecM Try.prog 50 [.int (litN x b), .int 0, .int (-1), .ptr (.cur 21) 0, .ptr (.cur 24) 0, .ptr (.cur 26) 0] (frO (nT t) ⟨List.replicate (nT t) (-1), b1, b2, [], List.replicate (mT t) 0, List.replicate (mT t) 0, q⟩) pinsO (fun r ro => r = .tup [] ∧ ro = frO (nT t) ⟨List.replicate (nT t) (-1), c1, c2, [], List.replicate (mT t) 0, List.replicate (mT t) 0, q'⟩) ∧
        Inv (epOf t s) add 0 (fun _ => List.replicate (nT t) (-1)) (fun _ => False) ⟨List.replicate (nT t) (-1), c1, c2, [], List.replicate (mT t) 0, List.replicate (mT t) 0, q'⟩ ∧
        (∀ k, k < 2 * (x + 1) → holdsL s k = true → Tgt ⟨List.replicate (nT t) (-1), c1, c2, [], List.replicate (mT t) 0, List.replicate (mT t) 0, q'⟩ k 0) ∧ q'.length ≤ x + 1 ∧ (⟨List.replicate (nT t) (-1), c1, c2, [], List.replicate (mT t) 0, List.replicate (mT t) 0, q'⟩ : Dj) = factsD s (dj0 (nT t) (mT t)) (x + 1) := by
      intro b hb
      obtain ⟨c1, c2, q', he⟩ := offer_form (List.replicate (nT t) (-1)) b1 b2 [] (List.replicate (mT t) 0) (List.replicate (mT t) 0) q (litN x b) 0 (-1)
      have hk : litN x b < (epOf t s).n := by show _ < 2 * t.facts.length; unfold litN; cases b <;> (simp only; omega)
      have hh : (epOf t s).holds (litN x b) = true := by
        show holdsL s _ = true
        unfold holdsL
        cases b
        · rw [show litN x false / 2 = x by show (2 * x + 1) / 2 = x; omega, hb]; show (false != decide ((2 * x + 1) % 2 = 1)) = true; rw [show (2 * x + 1) % 2 = 1 by omega]; rfl
        · rw [show litN x true / 2 = x by show (2 * x) / 2 = x; omega, hb]; show (true != decide ((2 * x) % 2 = 1)) = true; rw [show (2 * x) % 2 = 0 by omega]; rfl
      obtain ⟨g1, g2, g3⟩ := offer_inv (b := -1) hinv hk (Jus.ini hk hh) (Int.le_refl 0) (by unfold farI; omega) (.inl ⟨rfl, hh⟩)
      have g4 := offer_q ⟨List.replicate (nT t) (-1), b1, b2, [], List.replicate (mT t) 0, List.replicate (mT t) 0, q⟩ (litN x b) 0 (-1)
      rw [he] at g1 g2 g3 g4
      have hspec := f50_spec (nT t) ⟨List.replicate (nT t) (-1), b1, b2, [], List.replicate (mT t) 0, List.replicate (mT t) 0, q⟩ (litN x b) 0 (-1) hlen (by rw [hn]; unfold litN; cases b <;> (simp only; omega)) (by show q.length < 1000000; omega)
      rw [he] at hspec
      refine ⟨c1, c2, q', hspec, g1, fun k hk hkh => ?_, by simp only at g4; omega, by rw [factsD_succ, ← hfd, offF, hb]; exact he.symm⟩
      by_cases h2 : k < 2 * x
      · exact g3 _ _ (htg k h2 hkh)
      · have : k = litN x b := by
          unfold holdsL at hkh
          rw [show k / 2 = x by omega, hb] at hkh
          unfold litN
          cases b <;> simp at hkh ⊢ <;> omega
        rw [this]; exact g2
    refine And.intro (fun h2 => ?_) fun h2 => ?_
    all_goals
      obtain ⟨c1, c2, q', hspec, g1, g2, g3, g4⟩ := main _ h2
      refine SpecP.mono (f29_spec ⟨x, _⟩ hbig []) ?_
      rintro _ _ ⟨rfl, rfl⟩
      repeat (refine And.intro rfl ?_)
      refine ModH.mk ρO hspec rfl rfl (by first | exact ⟨rfl, rfl, rfl, rfl, rfl, rfl, rfl, rfl, trivial⟩ | exact ⟨rfl, rfl, rfl, rfl, rfl, rfl, rfl, rfl, rfl, trivial⟩) ?_
      rintro _ _ ⟨rfl, rfl⟩
      refine And.intro rfl ?_
      refine And.intro rfl ?_
      refine And.intro (by show (-9223372036854775808 : Int) ≤ (x : Int) + 1; omega) (And.intro (by show (x : Int) + 1 ≤ 9223372036854775807; omega) ?_)
      exact Exists.intro (x + 1, c1, c2, q', []) (And.intro (by show t.facts.length - (x + 1) < t.facts.length - x; omega) (And.intro ⟨hx, g1, g2, g3, g4⟩ (And.intro rfl rfl)))
  have hxe : x = t.facts.length := by have := of_decide_eq_false h1; omega
  subst hxe
  clear h1 hx0
  have hnn : nT t = 2 * t.facts.length := by show 2 * (t.facts.map tS).length = _; rw [hfl]
  have hmm : mT t = (rulesX t).length := List.length_map ..
  have hrl := rulesUp_len K t.acts.length
  have hml : mT t ≤ 100000 := by rw [hmm]; unfold rulesX; have := K.acts; omega
  have hw0 : ∀ (k : Nat), waitsOf (epOf t s) 0 k = [] := fun k => by simp [waitsOf]
  refine LoopX.mk (Nat × (List Int × (List Int × (List Int × (List Heap.Item × (List Fr × List GR)))))) (fun p => p.1 ≤ (rulesX t).length ∧ Inv (epOf t s) add 0 (fun _ => List.replicate (nT t) (-1)) (fun j => j < p.1) ⟨List.replicate (nT t) (-1), p.2.1, p.2.2.1, [], p.2.2.2.1, List.replicate (mT t) 0, p.2.2.2.2.1⟩ ∧
      (∀ k, k < 2 * t.facts.length → holdsL s k = true → Tgt ⟨List.replicate (nT t) (-1), p.2.1, p.2.2.1, [], p.2.2.2.1, List.replicate (mT t) 0, p.2.2.2.2.1⟩ k 0) ∧ mu ⟨List.replicate (nT t) (-1), p.2.1, p.2.2.1, [], p.2.2.2.1, List.replicate (mT t) 0, p.2.2.2.2.1⟩ ≤ 200 + p.1 ∧ p.2.2.2.2.2.2 = gridF (nT t) (waitsOf (epOf t s) p.1) ∧
      (⟨List.replicate (nT t) (-1), p.2.1, p.2.2.1, [], p.2.2.2.1, List.replicate (mT t) 0, p.2.2.2.2.1⟩ : Dj) = rulesD (epOf t s) (factsD s (dj0 (nT t) (mT t)) t.facts.length) p.1)
    (fun p => [(2, .bool add), (3, .ptr (.cur 24) 0), (6, .ptr (.cur 48) 0), (8, .ptr (.cur 64) 0), (9, .ptr (.cur 72) 0), (10, .osl (.cur 320) 1 0 (nT t)), (11, .osl (.cur 344) 1 0 (mT t)), (12, .ptr (.cur 96) 0), (13, .ptr (.cur 104) 0), (14, .ptr (.cur 112) 0), (16, .ptr (.cur 128) 0), (17, fireV), (91, .t (.sl (rulesX t).isEmpty 3 ((rulesX t).map tRY))), (92, .int ((rulesX t).map tRY).length), (93, .int p.1)])
    (fun p => ⟨p.2.2.2.2.2.1, frEsO t p.2.2.2.2.2.2 (nT t) (mT t) ⟨List.replicate (nT t) (-1), p.2.1, p.2.2.1, [], p.2.2.2.1, List.replicate (mT t) 0, p.2.2.2.2.1⟩⟩)
    (fun p => (rulesX t).length - p.1) (0, b1, b2, List.replicate (mT t) 0, q, o, List.replicate (nT t) .nil) ⟨Nat.zero_le _, hinv.vs fun _ _ _ h => absurd h (Nat.not_lt_zero _), htg, ?_, ?_, hfd⟩ ⟨rfl, rfl⟩ ?_
  · show q.length + (List.replicate (mT t) (0 : Int)).countP _ ≤ 200 + 0
    rw [List.countP_replicate]; simp; omega
  · show List.replicate (nT t) GR.nil = _
    unfold gridF
    simp only [hw0, wR]
    refine List.ext_getElem? fun k => ?_
    simp only [List.getElem?_map, List.getElem?_replicate]
    by_cases hk : k < nT t
    · simp [hk]
    · simp [hk]
  clear hinv htg hq hfd
  rintro ⟨i, b1, b2, op, q, o, W⟩ ⟨hi0, hinv, htg, hmu, hW, hrd⟩
  simp only at hi0 hinv htg hmu hW hrd
  refine And.intro (fun h1 => ?_) fun h1 => ?_
  · have hi : i < (rulesX t).length := by have := of_decide_eq_true h1; rw [List.length_map] at this; omega
    obtain ⟨a, k, fr, x, R⟩ := rule_at ht s hi
    have hget : ((rulesX t).map tRY)[((i : Int)).toNat]? = some (tRY ⟨(a : Int), (k : Int), fr.map Int.ofNat⟩) := by rw [Int.toNat_natCast, List.getElem?_map, R.rx]; rfl
    have hopl : op.length = mT t := by have := hinv.lop; simp only at this; rw [this, hmm]; simp [epOf]
    have hiop : i < op.length := by omega
    refine And.intro (by omega) (Exists.intro _ (And.intro hget ?_))
    refine And.intro (by omega) (And.intro (by show (i : Int) < (mT t : Nat); omega) (Exists.intro _ (And.intro (getI hiop) (And.intro (Nat.le_refl 1) ?_))))
    have hks : ∀ j (hj : j < fr.length), fr[j] < nT t := fun j hj => by rw [hnn]; exact R.frm _ (List.getElem_mem hj)
    have hfm : ((fr.map Int.ofNat).map tI).length = fr.length := by simp
    have hfl2 : fr.length ≤ 2000000000 := by
      have := R.nd
      have hsub : fr.length ≤ (List.range (2 * t.facts.length)).length := List.Nodup.length_le_of_subset R.nd fun y hy => List.mem_range.2 (R.frm y hy)
      rw [List.length_range] at hsub; omega
    refine LoopX.mk (Nat × List GR) (fun p => p.1 ≤ fr.length ∧ p.2 = gridF (nT t) (fun k => if k ∈ fr.take p.1 then waitsOf (epOf t s) i k ++ [i] else waitsOf (epOf t s) i k))
      (fun p => [(2, .bool add), (3, .ptr (.cur 24) 0), (6, .ptr (.cur 48) 0), (8, .ptr (.cur 64) 0), (9, .ptr (.cur 72) 0), (10, .osl (.cur 320) 1 0 (nT t)), (11, .osl (.cur 344) 1 0 (mT t)), (12, .ptr (.cur 96) 0), (13, .ptr (.cur 104) 0), (14, .ptr (.cur 112) 0), (16, .ptr (.cur 128) 0), (17, fireV), (21, .int i), (22, .ptr (.cur 176) 0), (91, .t (.sl (rulesX t).isEmpty 3 ((rulesX t).map tRY))), (92, .int ((rulesX t).map tRY).length), (93, .int i), (105, .t (.sl (fr.map Int.ofNat).isEmpty 1 ((fr.map Int.ofNat).map tI))), (106, .int ((fr.map Int.ofNat).map tI).length), (107, .int p.1)])
      (fun p => ⟨o, (176, .box [.int a, .int k, .t (.sl (fr.map Int.ofNat).isEmpty 1 ((fr.map Int.ofNat).map tI))]) :: frEsO t p.2 (nT t) (mT t) ⟨List.replicate (nT t) (-1), b1, b2, [], op.set i ((fr.map Int.ofNat).map tI).length, List.replicate (mT t) 0, q⟩⟩)
      (fun p => fr.length - p.1) (0, W) ⟨Nat.zero_le _, by simp [hW]⟩ ⟨rfl, ?_⟩ ?_
    · show _ = (⟨o, (176, .box [.int a, .int k, .t (.sl (fr.map Int.ofNat).isEmpty 1 ((fr.map Int.ofNat).map tI))]) :: frEsO t W (nT t) (mT t) ⟨List.replicate (nT t) (-1), b1, b2, [], op.set i ((fr.map Int.ofNat).map tI).length, List.replicate (mT t) 0, q⟩⟩ : St)
      simp only [frEsO, rowI, ← setI]
      rfl
    rintro ⟨j, W⟩ ⟨hj0, hWj⟩
    simp only at hj0 hWj
    refine And.intro (fun h2 => ?_) fun h2 => ?_
    · have hj : j < fr.length := by have := of_decide_eq_true h2; rw [hfm] at this; omega
      have hgj : ((fr.map Int.ofNat).map tI)[((j : Int)).toNat]? = some (tI (fr[j] : Nat)) := by rw [Int.toNat_natCast, List.getElem?_map, List.getElem?_map, List.getElem?_eq_getElem hj]; rfl
      refine And.intro (by omega) (Exists.intro _ (And.intro hgj ?_))
      have hkj := hks j hj
      have hnotin : fr[j] ∉ fr.take j := fun hm => by
        obtain ⟨q, hq, he⟩ := List.mem_take_iff_getElem.1 hm
        exact List.pairwise_iff_getElem.1 R.nd q j (by omega) hj (by omega) he
      have hcur : W[0 + ((fr[j] : Nat) : Int).toNat]? = some (wR (waitsOf (epOf t s) i fr[j])) := by
        rw [Nat.zero_add, Int.toNat_natCast, hWj, gridF_get hkj, if_neg hnotin]
      refine And.intro (by omega) (And.intro (by omega) (Exists.intro _ (And.intro hcur ?_)))
      generalize hwl : waitsOf (epOf t s) i fr[j] = wl
      have hwn : W.set fr[j] (wR (wl ++ [i])) = gridF (nT t) (fun k => if k ∈ fr.take (j + 1) then waitsOf (epOf t s) i k ++ [i] else waitsOf (epOf t s) i k) := by
        rw [hWj, gridF_set hkj]
        unfold gridF
        refine List.map_congr_left fun q _ => ?_
        congr 1
        rw [List.take_add_one, List.getElem?_eq_getElem hj]
        simp only [Option.toList_some, List.mem_append, List.mem_singleton]
        by_cases hq : q = fr[j]
        · subst hq; simp [hwl]
        · simp [hq]
      have hwll : wl.length ≤ i := by
        rw [← hwl]; unfold waitsOf
        exact Nat.le_trans (List.length_filter_le _ _) (by simp)
      have hWl : W.length = nT t := by rw [hWj]; simp [gridF]
      have fin : ∀ g : GR, g = wR (wl ++ [i]) → W.set (0 + ((fr[j] : Nat) : Int).toNat) g = gridF (nT t) (fun k => if k ∈ fr.take (j + 1) then waitsOf (epOf t s) i k ++ [i] else waitsOf (epOf t s) i k) := fun g hg => by rw [Nat.zero_add, Int.toNat_natCast, hg, hwn]
      cases wl with
      | nil =>
        refine And.intro (Nat.le_refl 1) (And.intro (Nat.le_of_ble_eq_true rfl) (And.intro (Nat.le_of_ble_eq_true rfl) ?_))
        refine And.intro (by omega) (And.intro (by omega) (And.intro rfl (And.intro (by rw [hWl, Nat.zero_add, Int.toNat_natCast]; exact hkj) ?_)))
        refine And.intro (by show (-9223372036854775808 : Int) ≤ (j : Int) + 1; omega) (And.intro (by show (j : Int) + 1 ≤ 9223372036854775807; omega) ?_)
        exact Exists.intro (j + 1, W.set (0 + ((fr[j] : Nat) : Int).toNat) (.row [tI i])) (And.intro (by show fr.length - (j + 1) < fr.length - j; omega) (And.intro ⟨hj, fin _ rfl⟩ (And.intro rfl rfl)))
      | cons y l =>
        refine And.intro (Nat.le_refl 1) (Exists.intro _ (And.intro (hcur.trans (by rw [hwl]; rfl)) (And.intro rfl ?_)))
        have hl9 : ∀ X : List T, (((y :: l).map fun z : Nat => tI (z : Int)) ++ [X]).length ≤ 1000000 := fun X => by rw [List.length_append, List.length_map]; simp only [List.length_singleton]; omega
        refine And.intro (Nat.le_trans (Nat.mul_le_mul_right _ (hl9 _)) (Nat.le_of_ble_eq_true rfl)) (And.intro (Nat.le_trans (hl9 _) (Nat.le_of_ble_eq_true rfl)) ?_)
        refine And.intro (by omega) (And.intro (by omega) (And.intro rfl ?_))
        refine And.intro (by show 0 + ((fr[j] : Nat) : Int).toNat < (W.set _ _).length; rw [List.length_set, hWl, Nat.zero_add, Int.toNat_natCast]; exact hkj) ?_
        refine And.intro (by show (-9223372036854775808 : Int) ≤ (j : Int) + 1; omega) (And.intro (by show (j : Int) + 1 ≤ 9223372036854775807; omega) ?_)
        refine Exists.intro (j + 1, (W.set (0 + ((fr[j] : Nat) : Int).toNat) .out).set (0 + ((fr[j] : Nat) : Int).toNat) (.row (((y :: l).map fun z : Nat => tI (z : Int)) ++ [tI i]))) (And.intro (by show fr.length - (j + 1) < fr.length - j; omega) (And.intro ⟨hj, ?_⟩ (And.intro rfl rfl)))
        show (W.set _ _).set _ _ = _
        rw [List.set_set]
        refine fin _ ?_
        show GR.row _ = GR.row (((y :: l) ++ [i]).map fun z : Nat => tI (z : Int))
        rw [List.map_append]; rfl
    have hje : j = fr.length := by have := of_decide_eq_false h2; rw [hfm] at this; omega
    have hWe : W = gridF (nT t) (waitsOf (epOf t s) (i + 1)) := by
      rw [hWj, hje, List.take_length]
      unfold gridF
      refine List.map_congr_left fun q _ => ?_
      congr 1
      exact (waits_succ R.re q).symm
    clear h2 hj0 hWj
    have hop1 : i < (op.set i (((fr.map Int.ofNat).map tI).length : Int)).length := by rw [List.length_set]; exact hiop
    refine And.intro (by omega) (And.intro (by show (i : Int) < (mT t : Nat); omega) (Exists.intro _ (And.intro (getI hop1) ?_)))
    have hev : ev (op.set i (((fr.map Int.ofNat).map tI).length : Int)) i = (fr.length : Int) := by rw [ev_set hiop, if_pos rfl, hfm]
    have hlk : lack (List.replicate (nT t) (-1)) fr = fr.length := by
      unfold lack
      rw [List.countP_eq_length]
      intro z _
      rw [ev_rep]; rfl
    have hcb : comb add (List.replicate (nT t) (-1)) fr = 0 := by
      exact ih' add fr (nT t)
    have hsm0 : ev (List.replicate (mT t) (0 : Int)) i = 0 := by
      unfold ev
      rw [List.getD_eq_getElem?_getD, List.getElem?_replicate]
      rw [if_pos (show i < mT t by omega)]; rfl
    have hset0 : (List.replicate (mT t) (0 : Int)).set i 0 = List.replicate (mT t) 0 := by
      refine List.ext_getElem? fun z => ?_
      rw [List.getElem?_set]
      by_cases hz : i = z
      · subst hz; simp only [if_true, List.length_replicate, List.getElem?_replicate]
      · rw [if_neg hz]
    have hcnt : (op.set i (((fr.map Int.ofNat).map tI).length : Int)).countP (fun x => decide (0 < x)) ≤ op.countP (fun x => decide (0 < x)) + (if fr.length = 0 then 0 else 1) := by
      rw [hfm]
      refine Nat.le_trans (countP_set_le _ _ _ _) ?_
      by_cases hz : fr.length = 0
      · rw [hz]; simp
      · rw [if_neg hz]; split <;> omega
    have hlen2 : LenD (nT t) ⟨List.replicate (nT t) (-1), b1, b2, [], op.set i (((fr.map Int.ofNat).map tI).length : Int), List.replicate (mT t) 0, q⟩ := ⟨by simp, by have := hinv.lby; simp only at this; rw [this]; exact hnn.symm, by have := hinv.lb; simp only at this; rw [this]; exact hnn.symm⟩
    refine And.intro (fun h3 => ?_) fun h3 => ?_
    · have h3' : ev (op.set i (((fr.map Int.ofNat).map tI).length : Int)) i = 0 := eq_of_beq h3
      have hz : fr.length = 0 := by rw [hev] at h3'; omega
      have hf := fire_inv (e := List.replicate (nT t) (-1)) (epOf_ok ht s) hinv R.re (by rw [hlk]; exact hz) (fun _ _ => rfl) (by have := R.cost.1; show 0 ≤ min farI (comb add _ fr + x.cost); rw [hcb]; unfold farI; omega)
      have hft := hf
      unfold rval at hf
      simp only [hcb, upd, hset0] at hf
      have hspec := f52_spec t (rulesX t).isEmpty (rulesX t) (nT t) (mT t) ⟨List.replicate (nT t) (-1), b1, b2, [], op.set i (((fr.map Int.ofNat).map tI).length : Int), List.replicate (mT t) 0, q⟩ i a k (fr.map Int.ofNat) x hlen2 (by simp) R.rx R.act (by omega) (by rw [hnn]; exact R.to) (by have : q.length ≤ mu ⟨List.replicate (nT t) (-1), b1, b2, [], op, List.replicate (mT t) 0, q⟩ := Nat.le_add_right _ _; show q.length < 1000000; omega)
        (by show 0 ≤ ev (List.replicate (mT t) (0 : Int)) i ∧ ev (List.replicate (mT t) (0 : Int)) i ≤ farI; rw [hsm0]; unfold farI; omega) R.cost
      have hmuo := offer_mu ⟨List.replicate (nT t) (-1), b1, b2, [], op.set i (((fr.map Int.ofNat).map tI).length : Int), List.replicate (mT t) 0, q⟩ k (min farI (0 + x.cost)) (i : Int)
      simp only [hsm0] at hspec
      obtain ⟨c1, c2, q', he⟩ := offer_form (List.replicate (nT t) (-1)) b1 b2 [] (op.set i (((fr.map Int.ofNat).map tI).length : Int)) (List.replicate (mT t) 0) q k (min farI (0 + x.cost)) i
      rw [he] at hspec hmuo
      have hop0 : op.set i (((fr.map Int.ofNat).map tI).length : Int) = op.set i 0 := by rw [hfm, hz]; rfl
      rw [hop0] at he
      rw [he] at hf
      have hbl : b2.length = nT t := by have := hinv.lb; simp only at this; rw [this]; exact hnn.symm
      have htg2 : ∀ z, z < 2 * t.facts.length → holdsL s z = true → Tgt (offer ⟨List.replicate (nT t) (-1), b1, b2, [], op.set i 0, List.replicate (mT t) 0, q⟩ k (min farI (0 + x.cost)) (i : Int)) z 0 := fun z hz1 hz2 =>
        offer_tgt (by show k < b2.length; rw [hbl, hnn]; exact R.to) (by have := R.cost.1; unfold farI; omega) (htg z hz1 hz2)
      rw [he] at htg2
      have hmu2 : mu ⟨List.replicate (nT t) (-1), c1, c2, [], op.set i 0, List.replicate (mT t) 0, q'⟩ ≤ 200 + (i + 1) := by
        have e1 : mu ⟨List.replicate (nT t) (-1), b1, b2, [], op.set i (((fr.map Int.ofNat).map tI).length : Int), List.replicate (mT t) 0, q⟩ ≤ mu ⟨List.replicate (nT t) (-1), b1, b2, [], op, List.replicate (mT t) 0, q⟩ := by
          rw [if_pos hz] at hcnt
          unfold mu; simp only; omega
        rw [hop0] at hmuo e1
        omega
      have hinv2 : Inv (epOf t s) add 0 (fun _ => List.replicate (nT t) (-1)) (fun j => j < i + 1) ⟨List.replicate (nT t) (-1), c1, c2, [], op.set i 0, List.replicate (mT t) 0, q'⟩ := hf.vs fun j r hj hp => ⟨by omega, by split <;> rfl⟩
      refine ModH.mk ρF hspec rfl rfl (by repeat (first | exact trivial | refine And.intro rfl ?_)) ?_
      rintro _ _ ⟨rfl, rfl⟩
      refine And.intro rfl ?_
      refine And.intro (by show (-9223372036854775808 : Int) ≤ (i : Int) + 1; omega) (And.intro (by show (i : Int) + 1 ≤ 9223372036854775807; omega) ?_)
      refine Exists.intro (i + 1, c1, c2, op.set i (((fr.map Int.ofNat).map tI).length : Int), q', [], W) (And.intro (by show (rulesX t).length - (i + 1) < (rulesX t).length - i; omega) (And.intro ⟨hi, ?_, ?_, ?_, hWe, by rw [rulesD_succ, ← hrd, ruleF]; simp only [R.re]; rw [if_pos (by rw [hz]; rfl)]; simp only [hop0]; rw [hz]; exact he.symm⟩ (And.intro rfl rfl)))
      · simp only [hop0]; exact hinv2
      · simp only [hop0]; exact htg2
      · simp only [hop0]; exact hmu2
    · have h3' : ¬ ev (op.set i (((fr.map Int.ofNat).map tI).length : Int)) i = 0 := by
        intro he
        have : (ev (op.set i (((fr.map Int.ofNat).map tI).length : Int)) i == 0) = false := h3
        rw [he] at this; cases this
      have hz : fr.length ≠ 0 := by rw [hev] at h3'; omega
      have hf := upd_inv (e := List.replicate (nT t) (-1)) hinv R.re (by rw [hlk]; exact hz)
      simp only [hcb, upd, hset0, hlk] at hf
      have hinv2 : Inv (epOf t s) add 0 (fun _ => List.replicate (nT t) (-1)) (fun j => j < i + 1) ⟨List.replicate (nT t) (-1), b1, b2, [], op.set i (((fr.map Int.ofNat).map tI).length : Int), List.replicate (mT t) 0, q⟩ := by
        rw [hfm]; exact hf.vs fun j r hj hp => ⟨by omega, by split <;> rfl⟩
      refine And.intro (by show (-9223372036854775808 : Int) ≤ (i : Int) + 1; omega) (And.intro (by show (i : Int) + 1 ≤ 9223372036854775807; omega) ?_)
      refine Exists.intro (i + 1, b1, b2, op.set i (((fr.map Int.ofNat).map tI).length : Int), q, o, W) (And.intro (by show (rulesX t).length - (i + 1) < (rulesX t).length - i; omega) (And.intro ⟨hi, hinv2, htg, ?_, hWe, by rw [rulesD_succ, ← hrd, ruleF]; simp only [R.re]; rw [if_neg (by omega), hfm]⟩ (And.intro rfl rfl)))
      rw [if_neg hz] at hcnt
      unfold mu at hmu ⊢
      simp only at hmu ⊢
      omega
  have hie : i = (rulesX t).length := by have := of_decide_eq_false h1; rw [List.length_map] at this; omega
  have hst : Start t s add ⟨List.replicate (nT t) (-1), b1, b2, [], op, List.replicate (mT t) 0, q⟩ := ⟨hinv.vs fun j r hj _ => ⟨by
      have := (List.getElem?_eq_some_iff.1 hj).1
      have e : (epOf t s).rules.length = (rulesX t).length := by simp [epOf]
      rw [e] at this; omega, rfl⟩, htg, by have := hi0; have e2 : (rulesX t).length ≤ 100000 := by omega
                                           omega⟩
  rw [hie] at hW
  subst hW
  refine f28d_main t s add ht o _ hst ?_
  rw [hrd, hie]; rfl

end Go.Fw

/- What the program's functions do: estimates, whole, told as a function. -/
namespace Go.Fw
open Go Go.Proofs Heap
set_option maxRecDepth 10000

theorem f28do_spec (t : Task) (n1 : Bool) (s : List Int) (add : Bool) (ht : isB t = true) (hs : risingB s t.facts.length = true) (out : List Fr) : SpecP Try.prog 28 [.task t, .ints n1 s, .bool add] out (PostD t s add) := by
  refine spec_walkH cxm_ok mH_ok kp28 od28 (fn := Try.f28) (by kernel_rfl) rfl (by kernel_rfl) rfl (by unfold FnOK; kernel_rfl) fun hok => ?_
  have K := task_ok ht
  have hN := K.facts
  have hfl : (t.facts.map tS).length = t.facts.length := List.length_map ..
  refine And.intro (by omega) (And.intro (by omega) ?_)
  refine SpecP.mono (f39_spec t ht []) ?_
  rintro _ _ ⟨rfl, rfl⟩
  have hb : 2 * ((t.facts.map tS).length : Int) * ((8 : Nat) : Int) ≤ 140737488355328 := by omega
  have rest : rest28 4 [(1, .ints n1 s), (2, .bool add), (3, .ptr (.cur 24) 0), (6, .ptr (.cur 48) 0), (7, .int (2 * ((t.facts.map tS).length : Int))), (8, .ptr (.cur 64) 0), (9, .ptr (.cur 72) 0)]
    ⟨out, [(24, .box (cellsTask t)), (48, .box [.t (.sl true 0 []), .t (.sl true 0 []), .t (.sl true 0 [])]), (64, .box [.t (.sl (rulesX t).isEmpty 3 ((rulesX t).map tRY))]), (72, .box [.osl (.cur 280) 1 0 (2 * (t.facts.map tS).length), .osl (.cur 296) 1 0 (2 * (t.facts.map tS).length), .t (.sl true 0 [])]), (280, .row 3 1 (List.replicate (2 * (t.facts.map tS).length) (tI 0))), (296, .row 3 1 (List.replicate (2 * (t.facts.map tS).length) (tI 0)))]⟩
    (retW cxm Try.f28.results.toList (PostD t s add)) := by
    refine CutX.mk ?_
    have hrl := rulesUp_len K t.acts.length
    have hrl2 : ((rulesX t).map tRY).length ≤ 100000 := by rw [List.length_map]; unfold rulesX; have := K.acts; omega
    generalize hm : ((rulesX t).map tRY).length = m at hrl2
    have hb5 : (m : Int) * ((8 : Nat) : Int) ≤ 140737488355328 := by omega
    have hb4 : 2 * ((t.facts.map tS).length : Int) * ((24 : Nat) : Int) ≤ 140737488355328 := by omega
    refine And.intro rfl (And.intro (by omega) (And.intro hb4 (And.intro (by omega) ?_)))
    have rest : rest28 6 [(1, .ints n1 s), (2, .bool add), (3, .ptr (.cur 24) 0), (6, .ptr (.cur 48) 0), (7, .int (2 * ((t.facts.map tS).length : Int))), (8, .ptr (.cur 64) 0), (9, .ptr (.cur 72) 0), (10, .osl (.cur 320) 1 0 (2 * (t.facts.map tS).length)), (11, .osl (.cur 344) 1 0 ((rulesX t).map tRY).length), (12, .ptr (.cur 96) 0)]
      ⟨out, [(24, .box (cellsTask t)), (48, .box [.t (.sl true 0 []), .t (.sl true 0 []), .t (.sl true 0 [])]), (64, .box [.t (.sl (rulesX t).isEmpty 3 ((rulesX t).map tRY))]), (72, .box [.osl (.cur 280) 1 0 (2 * (t.facts.map tS).length), .osl (.cur 296) 1 0 (2 * (t.facts.map tS).length), .t (.sl true 0 [])]), (280, .row 3 1 (List.replicate (2 * (t.facts.map tS).length) (tI 0))), (296, .row 3 1 (List.replicate (2 * (t.facts.map tS).length) (tI 0))),
        (320, .grid 23 3 1 (List.replicate (2 * (t.facts.map tS).length) .nil)), (344, .row 3 1 (List.replicate ((rulesX t).map tRY).length (tI 0))), (96, .box [.osl (.cur 368) 1 0 ((rulesX t).map tRY).length]), (368, .row 3 1 (List.replicate ((rulesX t).map tRY).length (tI 0)))]⟩
      (retW cxm Try.f28.results.toList (PostD t s add)) := by
      refine CutX.mk ?_
      clear hm
      have hfn : (t.facts.map tS).length ≤ 200 := by omega
      refine And.intro rfl (And.intro (by omega) (And.intro hb (And.intro (by omega) ?_)))
      refine LoopX.mk Nat (fun i => i ≤ nT t) (fun i => envEst t n1 s add ++ [(53, .int (2 * ((t.facts.map tS).length : Int))), (54, .int i)])
        (fun i => ⟨out, frEst t (List.replicate (nT t) .nil) (nT t) (mT t) ⟨fillM (nT t) i, fillM (nT t) i, fillM (nT t) i, [], List.replicate (mT t) 0, List.replicate (mT t) 0, []⟩⟩) (fun i => nT t - i) 0 (Nat.zero_le _) ⟨rfl, ?_⟩ ?_
      · show _ = (⟨out, frEst t (List.replicate (nT t) .nil) (nT t) (mT t) ⟨fillM (nT t) 0, fillM (nT t) 0, fillM (nT t) 0, [], List.replicate (mT t) 0, List.replicate (mT t) 0, []⟩⟩ : St)
        have e0 : fillM (nT t) 0 = List.replicate (nT t) 0 := by simp [fillM]
        simp only [e0, frEst, rowI, List.map_replicate]
        rfl
      intro i hi
      refine And.intro (fun h1 => ?_) fun h1 => ?_
      · have h1' : (i : Int) < 2 * ((t.facts.map tS).length : Int) := of_decide_eq_true h1
        have hin : i < nT t := by show i < 2 * (t.facts.map tS).length; omega
        have hif : i < (fillM (nT t) i).length := by rw [fillM_len hi]; exact hin
        have hb7 : (i : Int) < (nT t : Nat) := by omega
        have es7 : (fillM (nT t) (i + 1)).map tI = ((fillM (nT t) i).map tI).set (0 + ((i : Nat) : Int).toNat) (tI (-1)) := by rw [setI, fillM_set hin]
        repeat first
          | refine And.intro rfl ?_
          | refine And.intro (Nat.le_refl 1) ?_
          | refine And.intro (by omega) ?_
          | refine And.intro hb7 ?_
          | refine Exists.intro _ (And.intro (getI hif) ?_)
        refine Exists.intro (i + 1) (And.intro (by show nT t - (i + 1) < nT t - i; omega) (And.intro hin ⟨rfl, ?_⟩))
        show _ = (⟨out, frEst t (List.replicate (nT t) .nil) (nT t) (mT t) ⟨fillM (nT t) (i + 1), fillM (nT t) (i + 1), fillM (nT t) (i + 1), [], List.replicate (mT t) 0, List.replicate (mT t) 0, []⟩⟩ : St)
        simp only [frEst, rowI, es7]
        rfl
      · have h1' : ¬ (i : Int) < 2 * ((t.facts.map tS).length : Int) := of_decide_eq_false h1
        have hie : i = nT t := by have hi' : i ≤ 2 * (t.facts.map tS).length := hi; show i = 2 * (t.facts.map tS).length; omega
        have hd0 : (⟨fillM (nT t) i, fillM (nT t) i, fillM (nT t) i, [], List.replicate (mT t) 0, List.replicate (mT t) 0, []⟩ : Dj) = dj0 (nT t) (mT t) := by rw [hie, fillM_end]; rfl
        have hfin := f28d_facts t n1 s add ht hs out
        rw [← hd0] at hfin
        exact hfin
    have hb5 : (((rulesX t).map tRY).length : Int) * ((8 : Nat) : Int) ≤ 140737488355328 := by omega
    repeat' (first | refine And.intro rfl ?_ | refine And.intro (by omega) ?_ | refine And.intro hb5 ?_ | refine And.intro ?_ ?_ | exact rest)
  refine And.intro ?_ (And.intro ?_ ?_)
  · refine And.intro rfl (And.intro (by omega) (And.intro hb (And.intro (by omega) ?_)))
    refine And.intro rfl ?_
    refine And.intro ?_ ?_
    · refine And.intro rfl (And.intro (by omega) (And.intro hb (And.intro (by omega) ?_)))
      refine And.intro rfl ?_
      exact rest
    · refine And.intro rfl (And.intro rfl ?_)
      refine And.intro rfl (And.intro (by omega) (And.intro hb (And.intro (by omega) ?_)))
      exact rest
  · refine And.intro rfl (And.intro (by omega) (And.intro hb (And.intro (by omega) ?_)))
    refine And.intro rfl ?_
    refine And.intro ?_ ?_
    · refine And.intro rfl (And.intro (by omega) (And.intro hb (And.intro (by omega) ?_)))
      refine And.intro rfl ?_
      exact rest
    · refine And.intro rfl (And.intro rfl ?_)
      refine And.intro rfl (And.intro (by omega) (And.intro hb (And.intro (by omega) ?_)))
      exact rest
  · refine And.intro rfl (And.intro rfl ?_)
    refine And.intro ?_ ?_
    · refine And.intro rfl (And.intro (by omega) (And.intro hb (And.intro (by omega) ?_)))
      refine And.intro rfl ?_
      refine And.intro rfl (And.intro (by omega) (And.intro hb (And.intro (by omega) ?_)))
      exact rest
    · refine And.intro rfl (And.intro (by omega) (And.intro hb (And.intro (by omega) ?_)))
      refine And.intro rfl ?_
      refine And.intro rfl (And.intro (by omega) (And.intro hb (And.intro (by omega) ?_)))
      exact rest

/-- Estimates, told as closed data. -/
theorem f28d_spec (t : Task) (n1 : Bool) (s : List Int) (add : Bool) (ht : isB t = true) (hs : risingB s t.facts.length = true) (out : List Fr) : SpecP Try.prog 28 [.task t, .ints n1 s, .bool add] out fun r ro =>
    ∃ d, EstOK t s add d ∧ DetE t s add d ∧ r = .agg [.ints false d.v, .ints false d.by_, .ints d.order.isEmpty d.order] ∧ ro = [] :=
  (f28do_spec t n1 s add ht hs out).close fun r ro ⟨d, hd, hdd, h1, h2⟩ => by
    have hl : (d.v.map tI).length = nT t := by rw [List.length_map, hd.est.len]; show 2 * t.facts.length = 2 * (t.facts.map tS).length; rw [List.length_map]
    have hl2 : (d.by_.map tI).length = nT t := by rw [List.length_map, hd.lby]; show 2 * t.facts.length = 2 * (t.facts.map tS).length; rw [List.length_map]
    refine ⟨_, ?_, d, hd, hdd, rfl, rfl⟩
    rw [h1]
    refine .agg _ _ rfl fun i x y hx hy => ?_
    match i with
    | 0 =>
      simp only [List.getElem?_cons_zero, Option.some.injEq] at hx hy
      subst hx; subst hy
      have := ClsV.row (ro := ro) 280 3 1 0 (nT t) (d.v.map tI) (by rw [h2, look_cons, if_pos rfl]) (by omega)
      rw [← hl, ← take_all] at this; rw [← hl]; exact this
    | 1 =>
      simp only [List.getElem?_cons_zero, List.getElem?_cons_succ, Option.some.injEq] at hx hy
      subst hx; subst hy
      have := ClsV.row (ro := ro) 296 3 1 0 (nT t) (d.by_.map tI) (by rw [h2, look_cons, if_neg (by decide), look_cons, if_pos rfl]) (by omega)
      rw [← hl2, ← take_all] at this; rw [← hl2]; exact this
    | 2 =>
      simp only [List.getElem?_cons_zero, List.getElem?_cons_succ, Option.some.injEq] at hx hy
      subst hx; subst hy
      have := acc_cls (s := 1248) (e := 3) (sz := 1) (es := d.order.map tI) (ro := ro) fun x r he => by rw [h2, look_cons, if_neg (by decide), look_cons, if_neg (by decide), he]; show look [(1248, Ob.row 3 1 (x :: r))] 1248 = _; rw [look_cons, if_pos rfl]
      rw [show d.order.isEmpty = (d.order.map tI).isEmpty by cases d.order <;> rfl]
      exact this
    | i + 3 => simp at hx

end Go.Fw

/- What the program's functions do: what a relaxed plan needs, and no more. -/
namespace Go.Fw
open Go Go.Proofs Heap
set_option maxRecDepth 10000

/-- What is needed for a literal. -/
inductive Rb (t : Task) (s : List Int) (d : Dj) : Nat → Nat → Prop
  | refl (k : Nat) : Rb t s d k k
  | step {k i y z : Nat} {r : Rule} (h1 : ev d.by_ k = (i : Int)) (h2 : (epOf t s).rules[i]? = some r) (h3 : y ∈ r.frm) (h : Rb t s d y z) : Rb t s d k z
theorem Rb.closed {t : Task} {s : List Int} {d : Dj} {need : List Bool} (hc : ∀ k, need.getD k false = true → NClo t s d need k) {k z : Nat} (h : Rb t s d k z) (hk : need.getD k false = true) : need.getD z false = true := by
  induction h with
  | refl => exact hk
  | step h1 h2 h3 _ ih => exact ih (hc _ hk _ _ h1 h2 _ h3)
abbrev Jst (t : Task) (s : List Int) (d : Dj) (need need' : List Bool) (k : Nat) : Prop := ∀ q, need'.getD q false = true → need.getD q false = true ∨ Rb t s d k q
set_option maxHeartbeats 1000000 in
theorem f40d_spec (t : Task) (s : List Int) (ht : isB t = true) (n : Nat) (d : Dj) (hn : n = 2 * t.facts.length) (hd : EstOK t s false d) : ∀ (c : Nat) (need : List Bool) (k : Nat), need.length = n → need.count false ≤ c → 0 ≤ ev d.v k → k < n →
    SpecM Try.prog 40 [.int k, .ptr (.cur 41) 0, .ptr (.cur 43) 0, .ptr (.cur 44) 0, .ptr (.cur 45) 0] (frN t n d need) pinsN fun r ro => ∃ need', r = .tup [] ∧ ro = frN t n d need' ∧ Mk t s d need need' ∧ need'.getD k false = true ∧ Jst t s d need need' k := by
  intro c
  induction c with
  | zero =>
    intro need k hnl hc hv hk
    have hall : need.getD k false = true := by
      cases hh : need.getD k false with
      | true => rfl
      | false =>
        have hlt : k < need.length := by omega
        have : 0 < need.count false := List.count_pos_iff.2 (by
          rw [List.getD_eq_getElem?_getD, List.getElem?_eq_getElem hlt] at hh
          have hh' : need[k] = false := hh
          exact hh' ▸ List.getElem_mem hlt)
        omega
    refine specM_walk cxm_ok mH_ok kp40 [] (fn := Try.f40) (by kernel_rfl) rfl (by kernel_rfl) rfl (by unfold FnOK; kernel_rfl) rfl fun hok => ?_
    refine And.intro (by omega) (And.intro (by omega) (Exists.intro _ (And.intro (getB (by omega)) ?_)))
    rw [hall]
    refine And.intro (fun _ => ?_) fun h => by cases h
    exact ⟨rfl, [41, 42, 43, 44, 45], need, rfl, rfl, Mk.refl _, hall, fun _ h => .inl h⟩
  | succ c ih =>
    intro need k hnl hc hv hk
    refine specM_walk cxm_ok mH_ok kp40 [] (fn := Try.f40) (by kernel_rfl) rfl (by kernel_rfl) rfl (by unfold FnOK; kernel_rfl) rfl fun hok => ?_
    refine And.intro (by omega) (And.intro (by omega) (Exists.intro _ (And.intro (getB (by omega)) ?_)))
    refine And.intro (fun h1 => ?_) fun h1 => ?_
    · exact ⟨rfl, [41, 42, 43, 44, 45], need, rfl, rfl, Mk.refl _, h1, fun _ h => .inl h⟩
    refine And.intro (by omega) (And.intro (by omega) (Exists.intro _ (And.intro (getB (by omega)) (And.intro (Nat.le_refl 1) ?_))))
    have hkl : k < need.length := by omega
    have h1l : (need.set k true).length = n := by rw [List.length_set]; exact hnl
    have h1c : (need.set k true).count false ≤ c := by have := falses_set hkl h1; omega
    have h1m : ∀ q, need.getD q false = true → (need.set k true).getD q false = true := fun q hq => getD_set_true hq
    have h1k : (need.set k true).getD k false = true := by rw [getD_set hkl, if_pos rfl]
    have h1o : ∀ q, (need.set k true).getD q false = true → need.getD q false = true ∨ q = k := fun q hq => by
      rw [getD_set hkl] at hq
      split at hq
      · rename_i he; exact .inr he.symm
      · exact .inl hq
    have hby : k < d.by_.length := by rw [hd.lby, ← hn]; exact hk
    have hgb : (d.by_.map tI)[((k : Int)).toNat]? = some (tI (ev d.by_ k)) := by
      have := getI hby
      rw [Nat.zero_add] at this; exact this
    refine And.intro (by omega) (Exists.intro _ (And.intro hgb ?_))
    rcases hd.rule hv with ⟨b1, b2⟩ | ⟨i, r, r1, r2, r3, r4⟩
    · rw [b1]
      refine And.intro (fun h => absurd h (by decide)) fun _ => ?_
      refine ⟨rfl, [41, 42, 43, 44, 45], need.set k true, rfl, ?_, ⟨by rw [List.length_set], h1m, fun q hq => ?_⟩, h1k, fun q hq => by
          rcases h1o q hq with h | h
          · exact .inl h
          · subst h; exact .inr (.refl _)⟩
      · show [(41, Ob.box [.osl (.cur 42) 1 0 n]), (42, .row 4 1 ((need.map tB).set (0 + ((k : Int)).toNat) (tB true))), _, _, _] = _
        rw [setB]
      · rcases h1o q hq with h | h
        · exact .inl h
        · subst h
          exact .inr ⟨hv, fun i r h1 _ => by rw [b1] at h1; omega⟩
    · have hiR : i < (rulesX t).length := by
        have := (List.getElem?_eq_some_iff.1 r1).1
        simpa [epOf] using this
      obtain ⟨a, kk, fr, xa, R⟩ := rule_at ht s hiR
      have hre : r = ⟨a, kk, fr, xa.cost⟩ := Option.some.inj (r1.symm.trans R.re)
      subst hre
      have hget : ((rulesX t).map tRY)[((i : Int)).toNat]? = some (tRY ⟨(a : Int), (kk : Int), fr.map Int.ofNat⟩) := by rw [Int.toNat_natCast, List.getElem?_map, R.rx]; rfl
      have hfm : ((fr.map Int.ofNat).map tI).length = fr.length := by simp
      have hfl2 : fr.length ≤ 2000000000 := by
        have hsub : fr.length ≤ (List.range (2 * t.facts.length)).length := List.Nodup.length_le_of_subset R.nd fun y hy => List.mem_range.2 (R.frm y hy)
        rw [List.length_range] at hsub; have := (task_ok ht).facts; omega
      rw [r2]
      refine And.intro (fun _ => ?_) fun h => absurd h (by simp)
      refine And.intro (by omega) (Exists.intro _ (And.intro hget ?_))
      refine LoopX.mk (Nat × List Bool) (fun p => p.1 ≤ fr.length ∧ p.2.length = n ∧ Mk t s d (need.set k true) p.2 ∧ (∀ y ∈ fr.take p.1, p.2.getD y false = true) ∧ ∀ q, p.2.getD q false = true → (need.set k true).getD q false = true ∨ ∃ y ∈ fr, Rb t s d y q)
        (fun p => [(4, .ptr (.cur 45) 0), (27, .t (.sl (fr.map Int.ofNat).isEmpty 1 ((fr.map Int.ofNat).map tI))), (28, .int ((fr.map Int.ofNat).map tI).length), (29, .int p.1), (1000041, .osl (.cur 41) 1 0 0), (1000043, .osl (.cur 43) 1 0 0), (1000044, .osl (.cur 44) 1 0 0), (1000045, .osl (.cur 45) 1 0 0)])
        (fun p => ⟨[], frN t n d p.2⟩) (fun p => fr.length - p.1) (0, need.set k true) ⟨Nat.zero_le _, h1l, Mk.refl _, (fun y hy => by simp at hy), fun _ h => .inl h⟩ ⟨rfl, ?_⟩ ?_
      · show _ = (⟨[], frN t n d (need.set k true)⟩ : St)
        simp only [frN, ← setB]
        rfl
      rintro ⟨j, nd⟩ ⟨hj0, hndl, hmk, hall, hjs⟩
      simp only at hj0 hndl hmk hall hjs
      refine And.intro (fun h2 => ?_) fun h2 => ?_
      · have hj : j < fr.length := by
          have h2' : (j : Int) < (((fr.map Int.ofNat).map tI).length : Int) := of_decide_eq_true h2
          rw [hfm] at h2'; omega
        have hgj : ((fr.map Int.ofNat).map tI)[((j : Int)).toNat]? = some (tI (fr[j] : Nat)) := by rw [Int.toNat_natCast, List.getElem?_map, List.getElem?_map, List.getElem?_eq_getElem hj]; rfl
        have hfm2 : fr[j] ∈ fr := List.getElem_mem hj
        have hcc : nd.count false ≤ c := by
          refine Nat.le_trans ?_ h1c
          exact count_false_le (hndl.trans h1l.symm) hmk.mono
        refine And.intro (by omega) (Exists.intro _ (And.intro hgj ?_))
        refine ModH.mk [(41, 41), (42, 42), (43, 43), (44, 44), (45, 45)] (ih nd fr[j] hndl hcc (r4 _ hfm2) (by rw [hn]; exact R.frm _ hfm2)) rfl rfl (by repeat (first | exact trivial | refine And.intro rfl ?_)) ?_
        rintro _ _ ⟨nd', rfl, rfl, hmk', hk', hjs'⟩
        refine And.intro rfl ?_
        refine And.intro (by omega) (And.intro (by omega) ?_)
        refine Exists.intro (j + 1, nd') (And.intro (by show fr.length - (j + 1) < fr.length - j; omega) (And.intro ⟨hj, hmk'.len.trans hndl, hmk.trans hmk', fun y hy => ?_, fun q hq => by
          rcases hjs' q hq with h | h
          · exact hjs q h
          · exact .inr ⟨_, hfm2, h⟩⟩ (And.intro rfl rfl)))
        rw [List.take_add_one, List.getElem?_eq_getElem hj] at hy
        rcases List.mem_append.1 hy with hy | hy
        · exact hmk'.mono y (hall y hy)
        · simp at hy; subst hy; exact hk'
      · have hje : j = fr.length := by
          have h2' : ¬ (j : Int) < (((fr.map Int.ofNat).map tI).length : Int) := of_decide_eq_false h2
          rw [hfm] at h2'; omega
        rw [hje, List.take_length] at hall
        refine ⟨rfl, [41, 42, 43, 44, 45], nd, rfl, rfl, ⟨hndl.trans hnl.symm, fun q hq => hmk.mono q (h1m q hq), fun q hq => ?_⟩, hmk.mono k h1k, fun q hq => by
          rcases hjs q hq with h | ⟨y, hy, h⟩
          · rcases h1o q h with h | h
            · exact .inl h
            · subst h; exact .inr (.refl _)
          · exact .inr (.step r2 r1 hy h)⟩
        have hclo : NClo t s d nd k := fun i' r' h1 h2 y hy => by
          rw [r2] at h1
          have : i' = i := by omega
          subst this
          rw [r1] at h2; cases h2
          exact hall y hy
        rcases hmk.clo q hq with h | h
        · rcases h1o q h with h | h
          · exact .inl h
          · subst h; exact .inr ⟨hv, hclo⟩
        · exact .inr h

end Go.Fw

/- What the program's functions do: relaxed plans, told as a function. -/
namespace Go.Fw
open Go Go.Proofs Heap
set_option maxRecDepth 10000

/-- A literal of those that were found is looked at. -/
def stepP (t : Task) (d : Dj) (need : List Bool) (pb : List Int × List Bool) (x : Int) : List Int × List Bool :=
  if need.getD x.toNat false = true then if pb.2.getD x.toNat false = true then pb else match (rulesX t)[(ev d.by_ x.toNat).toNat]? with
    | some r => match t.acts[r.act.toNat]? with
      | some a => (pb.1 ++ [r.act], colN pb.2 a)
      | none => pb
    | none => pb else pb
/-- The relaxed plan. -/
def PlanD (t : Task) (s : List Int) (d : Dj) (l : List Lit) (p : List Int) : Prop := ∃ need : List Bool, need.length = d.v.length ∧ (∀ k, need.getD k false = true ↔ ∃ x ∈ l, Rb t s d (codeN x) k) ∧ p = (d.order.foldl (stepP t d need) ([], iniB t s)).1
theorem PlanD.uniq {t : Task} {s : List Int} {d : Dj} {l : List Lit} {p p' : List Int} (h : PlanD t s d l p) (h' : PlanD t s d l p') : p = p' := by
  obtain ⟨n, h1, h2, rfl⟩ := h
  obtain ⟨n', h1', h2', rfl⟩ := h'
  have : n = n' := List.ext_getElem (h1.trans h1'.symm) fun k hk hk' => by
    have e : n.getD k false = n'.getD k false := by rw [Bool.eq_iff_iff, h2, h2']
    rwa [List.getD_eq_getElem?_getD, List.getD_eq_getElem?_getD, List.getElem?_eq_getElem hk, List.getElem?_eq_getElem hk'] at e
  rw [this]
theorem foldI_take {β : Type} {f : β → Int → β} {b : β} {l : List Int} {j : Nat} (hj : j < l.length) : (l.take (j + 1)).foldl f b = f ((l.take j).foldl f b) l[j] := by
  rw [List.take_add_one, List.getElem?_eq_getElem hj, List.foldl_append]; rfl
abbrev PostPD (t : Task) (s : List Int) (l : List Lit) : LV → Fr → Prop := fun r ro => (askI t s l ≠ 0 ∧ r = .tup [.t (.sl true 0 []), .bool false, .int (askI t s l)] ∧ ro = []) ∨ (askI t s l = 0 ∧ ∃ d, EstOK t s false d ∧ DetE t s false d ∧
      ((gotB d.v l = false ∧ r = .tup [.t (.sl true 0 []), .bool false, .int 0] ∧ ro = []) ∨ (gotB d.v l = true ∧ ∃ p, PlanOK t s d l p ∧ PlanD t s d l p ∧ r = .tup [accV 744 1 (p.map tI), .bool true, .int 0] ∧ ro = accO 744 3 1 (p.map tI))))
set_option maxHeartbeats 4000000 in
theorem f14d_spec (t : Task) (n1 n2 : Bool) (s : List Int) (l : List Lit) (hll : l.length ≤ 1000000000) (out : List Fr) : SpecP Try.prog 14 [.task t, .ints n1 s, .lits n2 l] out (PostPD t s l) := by
  refine spec_walkH cxm_ok mH_ok kp14 od14 (fn := Try.f14) (by kernel_rfl) rfl (by kernel_rfl) rfl (by unfold FnOK; kernel_rfl) fun hok => ?_
  refine SpecP.mono (f26_spec t n1 n2 s l []) ?_
  rintro _ _ ⟨rfl, rfl⟩
  refine And.intro (fun h => ?_) fun h => ?_
  · have h0 : askI t s l ≠ 0 := by simpa using h
    exact Exists.intro [] (.inl ⟨h0, rfl, rfl⟩)
  have h0 : askI t s l = 0 := by simpa using h
  obtain ⟨hf, hl⟩ := ask_zero h0
  obtain ⟨ht, hs⟩ := fine_zero hf
  have K := task_ok ht
  have hN := K.facts
  have rest : ∀ d, EstOK t s false d → DetE t s false d → restP 3 [(1, .ints n1 s), (2, .lits n2 l), (3, .ptr (.cur 24) 0), (10, .ptr (.cur 80) 0), (11, .ptr (.cur 88) 0)]
      ⟨out, [(24, .box (cellsTask t)), (80, .box [.ints false d.v, .ints false d.by_, .ints d.order.isEmpty d.order]), (88, .box [.t (.sl (rulesX t).isEmpty 3 ((rulesX t).map tRY))])]⟩ (retW cxm Try.f14.results.toList (PostPD t s l)) := by
    intro d hd hdet
    refine CutX.mk ?_
    have hlen : d.v.length = 2 * t.facts.length := hd.est.len
    have hlm : (d.v.map tI).length = 2 * t.facts.length := by rw [List.length_map]; exact hlen
    refine And.intro rfl (And.intro (by omega) (And.intro (by show (((d.v.map tI).length : Nat) : Int) * ((1 : Nat) : Int) ≤ 140737488355328; omega) (And.intro (by omega) ?_)))
    refine LoopX.mk (Nat × (List Bool × List Fr)) (fun p => p.1 ≤ l.length ∧ p.2.1.length = (d.v.map tI).length ∧ gotB d.v (l.take p.1) = true ∧ (∀ k, p.2.1.getD k false = true → 0 ≤ ev d.v k ∧ NClo t s d p.2.1 k) ∧ (∀ x ∈ l.take p.1, p.2.1.getD (codeN x) false = true) ∧ ∀ q, p.2.1.getD q false = true → ∃ x ∈ l, Rb t s d (codeN x) q)
      (fun p => [(1, .ints n1 s), (3, .ptr (.cur 24) 0), (10, .ptr (.cur 80) 0), (11, .ptr (.cur 88) 0), (12, .ptr (.cur 96) 0), (13, .ptr (.cur 104) 0), (38, .lits n2 l), (39, .int (l.map tLit).length), (40, .int p.1)])
      (fun p => ⟨p.2.2, frP t (d.v.map tI).length d p.2.1 ++ [(104, .box [.fn 40 [(.cur 96, 0), (.cur 80, 0), (.cur 88, 0), (.cur 104, 0)]])]⟩) (fun p => l.length - p.1) (0, List.replicate (d.v.map tI).length false, out)
      ⟨Nat.zero_le _, by simp, rfl, fun k hk => ?_, (fun x hx => by simp at hx), fun k hk => ?_⟩ ⟨rfl, ?_⟩ ?_
    · rw [List.getD_eq_getElem?_getD, List.getElem?_replicate] at hk
      split at hk <;> cases hk
    · rw [List.getD_eq_getElem?_getD, List.getElem?_replicate] at hk
      split at hk <;> cases hk
    · show _ = (⟨out, frP t (d.v.map tI).length d (List.replicate (d.v.map tI).length false) ++ [(104, .box [.fn 40 [(.cur 96, 0), (.cur 80, 0), (.cur 88, 0), (.cur 104, 0)]])]⟩ : St)
      simp only [frP, List.map_replicate]
      rfl
    rintro ⟨i, need, o⟩ ⟨hi0, hnl, hg, hclo, hmem, hjs⟩
    simp only at hi0 hnl hg hclo hmem hjs
    refine And.intro (fun h1 => ?_) fun h1 => ?_
    · have hi : i < l.length := lt_of_dec h1
      have hin := hl _ (List.getElem_mem hi)
      have hcr := code_range hin
      have hkv : codeN l[i] < d.v.length := by rw [hlen]; unfold codeN; omega
      have hgv : (d.v.map tI)[(codeI l[i]).toNat]? = some (tI (ev d.v (codeN l[i]))) := by
        have := getI hkv
        rw [Nat.zero_add, Int.toNat_natCast] at this; exact this
      refine And.intro (by omega) (Exists.intro _ (And.intro (get_map hi) ?_))
      refine SpecP.mono (f29_spec l[i] (big_in K hin) []) ?_
      rintro _ _ ⟨rfl, rfl⟩
      repeat (refine And.intro rfl ?_)
      refine And.intro hcr.1 (Exists.intro _ (And.intro hgv ?_))
      refine And.intro (fun h2 => ?_) fun h2 => ?_
      · have h2' : ev d.v (codeN l[i]) < 0 := of_decide_eq_true h2
        exact Exists.intro [] (.inr ⟨h0, d, hd, hdet, .inl ⟨got_false hi h2', rfl, rfl⟩⟩)
      have h2' : ¬ ev d.v (codeN l[i]) < 0 := of_decide_eq_false h2
      refine SpecP.mono (f29_spec l[i] (big_in K hin) []) ?_
      rintro _ _ ⟨rfl, rfl⟩
      repeat (refine And.intro rfl ?_)
      have hspec := f40d_spec t s ht (d.v.map tI).length d hlm hd _ need (codeN l[i]) hnl (Nat.le_refl _) (by omega) (by rw [hlm, ← hlen]; exact hkv)
      rw [show ((codeN l[i] : Nat) : Int) = codeI l[i] from (code_cast hin).symm] at hspec
      refine ModH.mk ρN hspec rfl rfl (by repeat (first | exact trivial | refine And.intro rfl ?_)) ?_
      rintro _ _ ⟨nd, rfl, rfl, hmk, hk', hjs'⟩
      refine And.intro rfl ?_
      repeat (refine And.intro rfl ?_)
      refine And.intro (by omega) (And.intro (by omega) ?_)
      refine Exists.intro (i + 1, nd, []) (And.intro (by show l.length - (i + 1) < l.length - i; omega) (And.intro ⟨hi, hmk.len.trans hnl, ?_, fun k hk => ?_, fun x hx => ?_, fun q hq => by
        rcases hjs' q hq with h | h
        · exact hjs q h
        · exact ⟨_, List.getElem_mem hi, h⟩⟩ (And.intro rfl rfl)))
      · show gotB d.v (l.take (i + 1)) = true
        rw [got_snoc hi, hg]; simp; omega
      · rcases hmk.clo k hk with h | h
        · have := hclo k h
          exact ⟨this.1, this.2.mono hmk.mono⟩
        · exact h
      · rw [List.take_add_one, List.getElem?_eq_getElem hi] at hx
        rcases List.mem_append.1 hx with hx | hx
        · exact hmk.mono _ (hmem x hx)
        · simp at hx; subst hx; exact hk'
    have hie : i = l.length := by have := ge_of_dec h1; have : i ≤ l.length := hi0; omega
    rw [hie, List.take_length] at hg hmem
    refine SpecP.mono (f41_spec t n1 s ht hs []) ?_
    rintro _ _ ⟨b0, hb0, rfl, rfl⟩
    have hb0e := ini_eq hb0
    have hbl0 : b0.length = 2 * t.facts.length := hb0.1
    have hol : d.order.length ≤ 2 * t.facts.length := nodup_len hd.nd fun j x hj => let ⟨k, e1, e2, _⟩ := hd.why j x hj; ⟨k, e1, e2⟩
    refine LoopX.mk (Nat × (List Int × (List Bool × List Fr))) (fun q => q.1 ≤ d.order.length ∧ runB t b0 q.2.1 = some q.2.2.1 ∧ q.2.2.1.length = b0.length ∧ q.2.1.length ≤ q.1 ∧ (∀ x ∈ q.2.1, 0 ≤ x ∧ x < (t.acts.length : Int)) ∧ (∀ k : Nat, (k : Int) ∈ d.order.take q.1 → need.getD k false = true → q.2.2.1.getD k false = true) ∧ (∀ k, b0.getD k false = true → q.2.2.1.getD k false = true) ∧ (q.2.1, q.2.2.1) = (d.order.take q.1).foldl (stepP t d need) ([], b0))
      (fun q => [(3, .ptr (.cur 24) 0), (10, .ptr (.cur 80) 0), (11, .ptr (.cur 88) 0), (12, .ptr (.cur 96) 0), (16, accV 744 1 (q.2.1.map tI)), (17, .osl (.cur 465001499) 1 0 b0.length), (60, .ints d.order.isEmpty d.order), (61, .int (d.order.map tI).length), (62, .int q.1)])
      (fun q => ⟨q.2.2.2, frP t (d.v.map tI).length d need ++ (accO 744 3 1 (q.2.1.map tI) ++ [(465001499, .row 4 1 (q.2.2.1.map tB))])⟩) (fun q => d.order.length - q.1) (0, [], b0, o)
      ⟨Nat.zero_le _, rfl, rfl, Nat.le_refl _, (fun x hx => by cases hx), (fun k hk => by simp at hk), (fun k hk => hk), rfl⟩ ⟨rfl, rfl⟩ ?_
    clear h1 hi0
    rintro ⟨j, p, b, o⟩ ⟨hj0, hr, hbl, hpl, hpin, hcol, hmono, hfo⟩
    simp only at hj0 hr hbl hpl hpin hcol hmono hfo
    cases p
    case' nil => let P2 : List Int := []
    case' cons y r => let P2 : List Int := y :: r
    all_goals
      refine And.intro (fun h1 => ?_) fun h1 => ?_
      · have hj : j < d.order.length := lt_of_dec h1
        obtain ⟨k, hk1, hk2, hk3⟩ := hd.why j d.order[j] (List.getElem?_eq_getElem hj)
        have hko : (k : Int) ∈ d.order := hk1 ▸ List.getElem_mem hj
        have hkv := (hd.mem k).1 hko
        have hgo : (d.order.map tI)[((j : Int)).toNat]? = some (tI (k : Int)) := by rw [← hk1]; exact get_map hj
        have hby : k < d.by_.length := by rw [hd.lby]; exact hk2
        have hgb : (d.by_.map tI)[((k : Int)).toNat]? = some (tI (ev d.by_ k)) := by
          have := getI hby
          rw [Nat.zero_add] at this; exact this
        have hkn : k < need.length := by rw [hnl, hlm]; exact hk2
        have hkb : k < b.length := by rw [hbl, hbl0]; exact hk2
        have hcol1 : ∀ (b' : List Bool), (∀ q, b.getD q false = true → b'.getD q false = true) → (need.getD k false = true → b'.getD k false = true) → ∀ q : Nat, (q : Int) ∈ d.order.take (j + 1) → need.getD q false = true → b'.getD q false = true := fun b' hm hk q hq hn => by
          rw [List.take_add_one, List.getElem?_eq_getElem hj] at hq
          rcases List.mem_append.1 hq with hq | hq
          · exact hm q (hcol q hq hn)
          · simp at hq
            have : q = k := by omega
            subst this; exact hk hn
        have hP2 : P2.length ≤ j := hpl
        have hkt : d.order[j].toNat = k := by omega
        have hsk : ∀ pb', stepP t d need (P2, b) d.order[j] = pb' → pb' = (d.order.take (j + 1)).foldl (stepP t d need) ([], b0) := fun pb' h => by rw [foldI_take hj, ← hfo]; exact h.symm
        refine And.intro (by omega) (Exists.intro _ (And.intro hgo ?_))
        refine And.intro (by omega) (Exists.intro _ (And.intro hgb ?_))
        refine And.intro (by omega) (And.intro (by show (k : Int) < (((d.v.map tI).length : Nat) : Int); omega) (Exists.intro _ (And.intro (getB hkn) ?_)))
        refine And.intro (fun h2 => ?_) fun h2 => ?_
        rotate_left
        · refine And.intro (by omega) (And.intro (by omega) ?_)
          refine Exists.intro (j + 1, P2, b, o) (And.intro (by show d.order.length - (j + 1) < d.order.length - j; omega) (And.intro ⟨hj, hr, hbl, Nat.le_succ_of_le hP2, hpin, hcol1 b (fun _ h => h) (fun h => by rw [h2] at h; cases h), hmono, hsk (P2, b) (by unfold stepP; rw [hkt, if_neg (by rw [h2]; exact Bool.noConfusion)])⟩ (And.intro rfl rfl)))
        refine And.intro (by omega) (And.intro (by show (k : Int) < ((b0.length : Nat) : Int); omega) (Exists.intro _ (And.intro (getB hkb) ?_)))
        refine And.intro (fun h3 => ?_) fun h3 => ?_
        · refine And.intro (by omega) (And.intro (by omega) ?_)
          refine Exists.intro (j + 1, P2, b, o) (And.intro (by show d.order.length - (j + 1) < d.order.length - j; omega) (And.intro ⟨hj, hr, hbl, Nat.le_succ_of_le hP2, hpin, hcol1 b (fun _ h => h) (fun _ => h3), hmono, hsk (P2, b) (by unfold stepP; rw [hkt, if_pos h2, if_pos h3])⟩ (And.intro rfl rfl)))
        rcases hd.rule hkv with ⟨e1, e2⟩ | ⟨i, r', r1, r2, r3, r4⟩
        · have hb0k : b0.getD k false = true := by rw [hb0.2 k hk2]; exact e2
          rw [hmono k hb0k] at h3; cases h3
        have hiR : i < (rulesX t).length := by
          have := (List.getElem?_eq_some_iff.1 r1).1
          simpa [epOf] using this
        obtain ⟨a, kk, fr, xa, R⟩ := rule_at ht s hiR
        have hre : r' = ⟨a, kk, fr, xa.cost⟩ := Option.some.inj (r1.symm.trans R.re)
        subst hre
        have hget : ((rulesX t).map tRY)[((i : Int)).toNat]? = some (tRY ⟨(a : Int), (kk : Int), fr.map Int.ofNat⟩) := by rw [Int.toNat_natCast, List.getElem?_map, R.rx]; rfl
        rw [r2]
        refine And.intro (fun _ => ?_) fun h => by simp at h
        refine And.intro (by omega) (Exists.intro _ (And.intro hget ?_))
        have hA : (t.acts.map tAct)[((a : Int)).toNat]? = some (tAct xa) := by rw [Int.toNat_natCast, List.getElem?_map, R.act]; rfl
        have hal : a < t.acts.length := (List.getElem?_eq_some_iff.1 R.act).1
        -- the literals that the rule needs are collected
        have hin2 : ∀ y ∈ fr, b.getD y false = true := fun y hy => by
          have hyo : (y : Int) ∈ d.order.take j := by
            rcases hk3 with ⟨e1, _⟩ | ⟨i', rr, f1, f2, f3, f4⟩
            · rw [r2] at e1; omega
            · have : i' = i := by rw [r2] at f2; omega
              subst this
              rw [r1] at f1; cases f1
              exact f4 y hy
          exact hcol y hyo ((hclo k h2).2 i _ r2 r1 y hy)
        have hpre : setHas b xa.pre = true := List.all_eq_true.2 fun x hx => hin2 _ (R.pre x hx)
        have hcolk : (colN b xa).getD k false = true := by
          obtain ⟨e, he1, he2, he3⟩ := R.eff
          have hwh : setHas b e.when_ = true := List.all_eq_true.2 fun x hx => hin2 _ (he3 x hx)
          have hkk : kk = k := r3
          refine setL_get (x := codeI e.lit) ?_ ?_ ?_
          · exact List.mem_map.2 ⟨e, List.mem_filter.2 ⟨he1, hwh⟩, rfl⟩
          · rw [he2, hkk]
          · exact hkb
        have hcolm : ∀ q, b.getD q false = true → (colN b xa).getD q false = true := fun q hq => setL_mono _ _ hq
        have hr2 : runB t b0 (P2 ++ [(a : Int)]) = some (colN b xa) := by
          rw [runB_app, show runB t b0 P2 = some b from hr]
          show runB t b [(a : Int)] = _
          rw [runB_cons, Int.toNat_natCast, R.act]
          simp only [hpre, if_true]; rfl
        have hl4 : ∀ X : List T, ((P2.map tI).take (P2.map tI).length ++ [X]).length ≤ 100000 := fun X => by
          rw [List.take_length, List.length_append, List.length_map, List.length_singleton]; omega
        repeat first
          | refine And.intro (Nat.le_of_ble_eq_true rfl) ?_
          | refine And.intro (Nat.le_refl _) ?_
          | refine And.intro rfl ?_
          | refine And.intro (Nat.le_trans (Nat.mul_le_mul_right _ (hl4 _)) (Nat.le_of_ble_eq_true rfl)) ?_
          | refine And.intro (Nat.le_trans (hl4 _) (Nat.le_of_ble_eq_true rfl)) ?_
          | refine And.intro (by omega) ?_
          | refine Exists.intro _ (And.intro hget ?_)
        have hspec := f42_spec t ht b b0.length a xa (by rw [hbl]; exact hbl0) hbl.symm R.act
        rw [hpre, if_pos rfl] at hspec
        refine ModH.mk [(1, 465001499)] hspec rfl rfl ⟨rfl, trivial⟩ ?_
        rintro _ _ ⟨rfl, rfl⟩
        refine And.intro rfl ?_
        refine And.intro (fun _ => ?_) fun h => by cases h
        repeat (refine And.intro rfl ?_)
        repeat first
          | refine And.intro rfl ?_
          | refine And.intro (by omega) ?_
          | refine Exists.intro _ (And.intro hget ?_)
        have hstp : stepP t d need (P2, b) d.order[j] = (P2 ++ [(a : Int)], colN b xa) := by
          unfold stepP
          rw [hkt, if_pos h2, if_neg (by rw [h3]; exact Bool.noConfusion), r2, Int.toNat_natCast]
          simp only [R.rx, Int.toNat_natCast, R.act]
        have hinv : runB t b0 (P2 ++ [(a : Int)]) = some (colN b xa) ∧ (colN b xa).length = b0.length ∧ (P2 ++ [(a : Int)]).length ≤ j + 1 ∧ (∀ x ∈ P2 ++ [(a : Int)], 0 ≤ x ∧ x < (t.acts.length : Int)) ∧ (∀ k : Nat, (k : Int) ∈ d.order.take (j + 1) → need.getD k false = true → (colN b xa).getD k false = true) ∧ (∀ k, b0.getD k false = true → (colN b xa).getD k false = true) ∧ (P2 ++ [(a : Int)], colN b xa) = (d.order.take (j + 1)).foldl (stepP t d need) ([], b0) := by
          refine ⟨hr2, by rw [colN_len]; exact hbl, by simp; omega, fun x hx => ?_, hcol1 _ hcolm fun _ => hcolk, (fun q hq => hcolm q (hmono q hq)), hsk _ hstp⟩
          rcases List.mem_append.1 hx with hx | hx
          · exact hpin x hx
          · simp at hx; subst hx; omega
        first
          | exact Exists.intro (j + 1, [(a : Int)], colN b xa, []) (And.intro (by show d.order.length - (j + 1) < d.order.length - j; omega) (And.intro ⟨hj, hinv⟩ (And.intro rfl rfl)))
          | (refine Exists.intro (j + 1, y :: (r ++ [(a : Int)]), colN b xa, []) (And.intro (by show d.order.length - (j + 1) < d.order.length - j; omega) (And.intro ⟨hj, hinv⟩ ?_))
             have e1 : List.take (tI y :: List.map tI r).length (tI y :: List.map tI r) ++ [tI (a : Int)] = tI y :: List.map tI (r ++ [(a : Int)]) := by rw [List.take_length]; simp
             simp only [List.map_cons, ← e1]
             exact And.intro rfl rfl)
      · have hje : j = d.order.length := by have := ge_of_dec h1; have : j ≤ d.order.length := hj0; omega
        rw [hje, List.take_length] at hcol
        have hset : setHas b l = true := List.all_eq_true.2 fun x hx => by
          have hn2 := hmem x hx
          have hv := (hclo _ hn2).1
          exact hcol _ ((hd.mem _).2 hv) hn2
        have htk : takesB t s P2 l = true := by unfold takesB; rw [← hb0e, show runB t b0 P2 = some b from hr]; exact hset
        refine Exists.intro [744] (.inr ⟨h0, d, hd, hdet, .inr ⟨hg, P2, ⟨hpin, htk, ?_⟩, ⟨need, by rw [hnl, List.length_map], fun q => ⟨hjs q, fun ⟨x, hx, h⟩ => h.closed (fun k hk => (hclo k hk).2) (hmem x hx)⟩, ?_⟩, rfl, rfl⟩⟩)
        rotate_left
        · rw [hje, List.take_length] at hfo
          rw [← hb0e, ← hfo]
        have hle : P2.length ≤ j := hpl
        rw [hje] at hle
        refine Nat.le_trans hle ?_
        unfold litsOf
        rw [List.length_map]
        have : d.order.length ≤ (((List.range (2 * t.facts.length)).filter fun k => decide (0 ≤ ev d.v k)).map Int.ofNat).length := List.Nodup.length_le_of_subset hd.nd fun y hy => by
          obtain ⟨q, hq⟩ := List.mem_iff_getElem?.1 hy
          obtain ⟨k, rfl, hk2, _⟩ := hd.why q y hq
          exact List.mem_map.2 ⟨k, List.mem_filter.2 ⟨List.mem_range.2 hk2, by simpa using (hd.mem k).1 hy⟩, rfl⟩
        rwa [List.length_map] at this
  repeat' first
    | refine And.intro rfl ?_
    | (refine SpecP.mono (f28d_spec t n1 s false ht hs []) ?_; rintro _ _ ⟨d, hd, hdet, rfl, rfl⟩)
    | (refine SpecP.mono (f39_spec t ht []) ?_; rintro _ _ ⟨rfl, rfl⟩)
    | refine And.intro ?_ ?_
    | exact rest _ ‹EstOK t s false _› ‹DetE t s false _›

end Go.Fw

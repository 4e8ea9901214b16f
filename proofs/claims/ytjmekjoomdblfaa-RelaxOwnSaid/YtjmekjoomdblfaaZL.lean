/- How estimates are made. -/
import Derived.Test.YtjmekjoomdblfaaZK

/- What the program's functions do: estimates. -/
namespace Go.Fw
open Go Go.Proofs Heap
set_option maxRecDepth 10000

def tailC : Nat → Code → Code
  | n + 1, .seq _ b => tailC n b
  | _, c => c
def od28 : Od := [(3, [(0, .tree (.pure 0 (.pure 2 (.fork 1 (.fork 3 (.pure 4 (.eff 5 (.last 6 .done []))) [0] (.last 5 (.eff 3 (.pure 4 (.last 6 .done []))) [0, 2])) [2] (.fork 3 (.fork 1 (.pure 4 (.eff 5 (.last 6 .done []))) [2] (.last 5 (.eff 1 (.pure 4 (.last 6 .done []))) [0, 2])) [0] (.last 5 (.fork 1 (.eff 3 (.pure 4 (.last 6 .done []))) [2] (.last 3 (.eff 1 (.pure 4 (.last 6 .done []))) [0])) [0, 2]))))))]), (5, [(0, .tree (.pure 0 (.pure 1 (.pure 3 (.pure 4 (.fork 2 (.fork 5 (.eff 6 (.pure 7 (.last 8 .done []))) [0, 1] (.last 6 (.pure 7 (.eff 5 (.last 8 .done []))) [0, 1, 3, 4])) [3, 4] (.fork 5 (.fork 2 (.eff 6 (.pure 7 (.last 8 .done []))) [3, 4] (.last 6 (.eff 2 (.pure 7 (.last 8 .done []))) [0, 1, 3, 4])) [0, 1] (.last 6 (.fork 2 (.pure 7 (.eff 5 (.last 8 .done []))) [3, 4] (.last 5 (.eff 2 (.pure 7 (.last 8 .done []))) [0, 1])) [0, 1, 3, 4]))))))))]), (11, [(0, .tree (.pure 0 (.pure 1 (.pure 2 (.pure 3 (.pure 4 (.pure 5 (.pure 6 (.pure 7 (.pure 8 (.last 9 (.pure 10 (.last 11 (.pure 12 (.last 13 .done [])) [6, 7])) [3, 4, 5, 6, 7])))))))))))]), (19, [(0, .tree (.pure 0 (.pure 1 (.pure 2 (.pure 3 (.pure 4 (.last 5 (.last 6 .done [2]) [0])))))))]), (43, [(0, .tree (.pure 0 (.pure 1 (.pure 2 (.pure 3 (.pure 4 (.pure 5 (.pure 6 (.pure 7 (.pure 8 (.pure 9 (.pure 10 (.last 11 .done [])))))))))))))]), (44, [(0, .tree (.pure 0 (.pure 1 (.pure 2 (.pure 3 (.pure 4 (.pure 5 (.pure 6 (.pure 7 (.pure 8 (.pure 9 (.last 10 .done []))))))))))))])]
def kpE : List Nat := [24, 48, 64, 72, 280, 296, 320, 344, 96, 368, 104, 384, 376, 112, 416, 128, 1248]
def kp28 : Kp := [(4, ([1, 2, 3, 6, 7, 8, 9], [0, 24, 48, 64, 72, 280, 296])), (6, ([1, 2, 3, 6, 7, 8, 9, 10, 11, 12], [0, 24, 48, 64, 72, 280, 296, 320, 344, 96, 368])), (9, ([1, 2, 3, 6, 8, 9, 10, 11, 12, 13, 14, 53, 54], kpE)), (13, ([1, 2, 3, 6, 8, 9, 10, 11, 12, 13, 14], 0 :: kpE)), (16, ([1, 2, 3, 6, 8, 9, 10, 11, 12, 13, 14, 16, 17, 73, 74], kpE)), (22, ([2, 3, 6, 8, 9, 10, 11, 12, 13, 14, 16, 17, 91, 92, 93], kpE)), (26, ([2, 3, 6, 8, 9, 10, 11, 12, 13, 14, 16, 17, 21, 22, 91, 92, 93, 105, 106, 107], 176 :: kpE)), (33, ([2, 6, 9, 10, 11, 12, 13, 17], 0 :: kpE)), (39, ([2, 6, 9, 10, 11, 12, 13, 17, 25, 162, 163, 164], 200 :: kpE))]
/-- What lies where estimates are made. -/
abbrev frEst (t : Task) (W : List GR) (n m : Nat) (d : Dj) : Fr := (24, .box (cellsTask t)) :: (48, .box [.t (.sl true 0 []), .t (.sl true 0 []), .t (.sl true 0 [])]) :: (64, .box [.t (.sl (rulesX t).isEmpty 3 ((rulesX t).map tRY))]) :: (72, .box [.osl (.cur 280) 1 0 n, .osl (.cur 296) 1 0 n, accV 1248 1 (d.order.map tI)]) :: (280, rowI d.v) :: (296, rowI d.by_) ::
  (320, .grid 23 3 1 W) :: (344, rowI d.op) :: (96, .box [.osl (.cur 368) 1 0 m]) :: (368, rowI d.sm) :: (104, .box [.ifc 84 (.ptr (.cur 384) 0)]) :: (384, .box [.osl (.cur 376) 2 0 d.q.length]) :: (376, rowQ d.q) :: (112, .box [.osl (.cur 416) 1 0 n]) :: (416, rowI d.best) :: accO 1248 3 1 (d.order.map tI)
abbrev nT (t : Task) : Nat := 2 * (t.facts.map tS).length
abbrev mT (t : Task) : Nat := ((rulesX t).map tRY).length
abbrev envEst (t : Task) (n1 : Bool) (s : List Int) (add : Bool) : Env := [(1, .ints n1 s), (2, .bool add), (3, .ptr (.cur 24) 0), (6, .ptr (.cur 48) 0), (8, .ptr (.cur 64) 0), (9, .ptr (.cur 72) 0), (10, .osl (.cur 320) 1 0 (nT t)), (11, .osl (.cur 344) 1 0 (mT t)), (12, .ptr (.cur 96) 0), (13, .ptr (.cur 104) 0), (14, .ptr (.cur 112) 0)]
def fillM (n i : Nat) : List Int := List.replicate i (-1) ++ List.replicate (n - i) 0
theorem fillM_len {n i : Nat} (h : i ≤ n) : (fillM n i).length = n := by simp [fillM]; omega
theorem fillM_set {n i : Nat} (h : i < n) : (fillM n i).set i (-1) = fillM n (i + 1) := by
  refine List.ext_getElem? fun k => ?_
  simp only [fillM, List.getElem?_set, List.getElem?_append, List.length_append, List.length_replicate, List.getElem?_replicate]
  by_cases hk : i = k
  · subst hk; simp; omega
  · rw [if_neg hk]
    by_cases h1 : k < i
    · simp [h1, show k < i + 1 by omega]
    · simp only [h1, if_false, show ¬ k < i + 1 by omega]
      by_cases h2 : k - i < n - i
      · rw [if_pos h2, if_pos (by omega)]
      · rw [if_neg h2, if_neg (by omega)]
theorem fillM_end (n : Nat) : fillM n n = List.replicate n (-1) := by simp [fillM]
abbrev rest28 (k : Nat) (env : Env) (st : St) (Q : Exit → Env → St → Prop) : Prop := CutX (fun env st => wpcX cxm Try.prog noY (modH Try.prog) 0 kp28 od28 (tailC k (Try.f28.body.get!)) env st Q) env st

abbrev ρO : Ren := [(21, 72), (22, 280), (23, 296), (24, 112), (25, 416), (26, 104), (27, 384), (28, 376), (29, 1248)]
abbrev ρF : Ren := (31, 128) :: (32, 64) :: (33, 96) :: (34, 368) :: (35, 24) :: ρO
/-- The same, with what offers. -/
abbrev frEsO (t : Task) (W : List GR) (n m : Nat) (d : Dj) : Fr := (24, .box (cellsTask t)) :: (48, .box [.t (.sl true 0 []), .t (.sl true 0 []), .t (.sl true 0 [])]) :: (64, .box [.t (.sl (rulesX t).isEmpty 3 ((rulesX t).map tRY))]) :: (72, .box [.osl (.cur 280) 1 0 n, .osl (.cur 296) 1 0 n, accV 1248 1 (d.order.map tI)]) :: (280, rowI d.v) :: (296, rowI d.by_) ::
  (320, .grid 23 3 1 W) :: (344, rowI d.op) :: (96, .box [.osl (.cur 368) 1 0 m]) :: (368, rowI d.sm) :: (104, .box [.ifc 84 (.ptr (.cur 384) 0)]) :: (384, .box [.osl (.cur 376) 2 0 d.q.length]) :: (376, rowQ d.q) :: (112, .box [.osl (.cur 416) 1 0 n]) :: (416, rowI d.best) :: (128, .box [.fn 50 [(.cur 72, 0), (.cur 112, 0), (.cur 104, 0)]]) :: accO 1248 3 1 (d.order.map tI)
abbrev fireV : LV := .fn 52 [(.cur 128, 0), (.cur 64, 0), (.cur 96, 0), (.cur 24, 0)]
abbrev offV : LV := .fn 50 [(.cur 72, 0), (.cur 112, 0), (.cur 104, 0)]
abbrev env33 (t : Task) (add : Bool) : Env := [(2, .bool add), (6, .ptr (.cur 48) 0), (9, .ptr (.cur 72) 0), (10, .osl (.cur 320) 1 0 (nT t)), (11, .osl (.cur 344) 1 0 (mT t)), (12, .ptr (.cur 96) 0), (13, .ptr (.cur 104) 0), (17, fireV)]

/-! ### The rules that wait for each literal -/
def wR (l : List Nat) : GR := match l with
  | [] => .nil
  | x :: r => .row ((x :: r).map fun y : Nat => tI (y : Int))
def gridF (n : Nat) (f : Nat → List Nat) : List GR := (List.range n).map fun k => wR (f k)
theorem gridF_get {n : Nat} {f : Nat → List Nat} {k : Nat} (h : k < n) : (gridF n f)[k]? = some (wR (f k)) := by simp [gridF, h]
theorem gridF_set {n : Nat} {f : Nat → List Nat} {k : Nat} {l : List Nat} (h : k < n) : (gridF n f).set k (wR l) = gridF n fun j => if j = k then l else f j := by
  refine List.ext_getElem? fun j => ?_
  rw [List.getElem?_set]
  by_cases hj : k = j
  · subst hj; simp [gridF, h]
  · rw [if_neg hj]
    simp only [gridF, List.getElem?_map]
    by_cases hjn : j < n
    · simp [hjn, Ne.symm hj]
    · simp [hjn]
theorem waits_succ {P : EP} {i : Nat} {r : Rule} (h : P.rules[i]? = some r) (k : Nat) : waitsOf P (i + 1) k = if k ∈ r.frm then waitsOf P i k ++ [i] else waitsOf P i k := by
  unfold waitsOf
  rw [List.range_succ, List.filter_append]
  simp only [List.filter_cons, List.filter_nil, h, List.contains_iff_mem]
  split <;> simp

/-- What is known where the search begins. -/
structure Start (t : Task) (s : List Int) (add : Bool) (d : Dj) : Prop where
  inv : Inv (epOf t s) add 0 (fun _ => d.v) (fun _ => True) d
  tgt : ∀ k, k < 2 * t.facts.length → holdsL s k = true → Tgt d k 0
  mu : mu d ≤ 200300
/-- What is found. -/
structure EstOK (t : Task) (s : List Int) (add : Bool) (d : Dj) : Prop where
  est : IsE (epOf t s) add d.v
  lby : d.by_.length = 2 * t.facts.length
  why : ∀ (j : Nat) (x : Int), d.order[j]? = some x → ∃ k : Nat, x = (k : Int) ∧ k < 2 * t.facts.length ∧ Why (epOf t s) (ev d.by_ k) k (d.order.take j)
  mem : ∀ k : Nat, ((k : Int) ∈ d.order ↔ 0 ≤ ev d.v k)
  nd : d.order.Nodup
  far : ∀ k, ev d.v k ≤ farI
abbrev PostE (t : Task) (s : List Int) (add : Bool) : LV → Fr → Prop := fun r ro => ∃ d, EstOK t s add d ∧ r = .agg [.osl (.cur 280) 1 0 (nT t), .osl (.cur 296) 1 0 (nT t), accV 1248 1 (d.order.map tI)] ∧ ro = (280, rowI d.v) :: (296, rowI d.by_) :: accO 1248 3 1 (d.order.map tI)

end Go.Fw

/- What the program's functions do: estimates, the search. -/
namespace Go.Fw
open Go Go.Proofs Heap
set_option maxRecDepth 10000

/-- The same, the values and the order of what was found told as rows. -/
abbrev frEsR (t : Task) (W : List GR) (n m : Nat) (d : Dj) (V R : List (List T)) : Fr := (24, .box (cellsTask t)) :: (48, .box [.t (.sl true 0 []), .t (.sl true 0 []), .t (.sl true 0 [])]) :: (64, .box [.t (.sl (rulesX t).isEmpty 3 ((rulesX t).map tRY))]) :: (72, .box [.osl (.cur 280) 1 0 n, .osl (.cur 296) 1 0 n, .osl (.cur 1248) 1 0 R.length]) :: (280, .row 3 1 V) :: (296, rowI d.by_) ::
  (320, .grid 23 3 1 W) :: (344, rowI d.op) :: (96, .box [.osl (.cur 368) 1 0 m]) :: (368, rowI d.sm) :: (104, .box [.ifc 84 (.ptr (.cur 384) 0)]) :: (384, .box [.osl (.cur 376) 2 0 d.q.length]) :: (376, rowQ d.q) :: (112, .box [.osl (.cur 416) 1 0 n]) :: (416, rowI d.best) :: (128, .box [.fn 50 [(.cur 72, 0), (.cur 112, 0), (.cur 104, 0)]]) :: [(1248, .row 3 1 R)]
/-- What a rule has heard of where a literal has just had its value. -/
def vsN (P : EP) (k : Nat) (v v1 : List Int) (i : Nat) : List Int := match P.rules[i]? with
  | some r => if k ∈ r.frm then v else v1
  | none => v
theorem vsN_eq {P : EP} {k : Nat} {v v1 : List Int} {i : Nat} {r : Rule} (h : P.rules[i]? = some r) : vsN P k v v1 i = if k ∈ r.frm then v else v1 := by unfold vsN; rw [h]
theorem vsj_step {WL : List Nat} {j : Nat} (hj : j < WL.length) {v1 : List Int} {f : Nat → List Int} {i : Nat} : (if i ∈ WL.take (j + 1) then v1 else f i) = if i = WL[j] then v1 else if i ∈ WL.take j then v1 else f i := by
  rw [List.take_add_one, List.getElem?_eq_getElem hj]
  simp only [Option.toList_some, List.mem_append, List.mem_singleton]
  by_cases h : i = WL[j]
  · simp [h]
  · simp [h]
theorem nodup_len {l : List Int} {n : Nat} (h : l.Nodup) (hb : ∀ (j : Nat) (x : Int), l[j]? = some x → ∃ k : Nat, x = (k : Int) ∧ k < n) : l.length ≤ n := by
  have : l.length ≤ ((List.range n).map Int.ofNat).length := List.Nodup.length_le_of_subset h fun y hy => by
    obtain ⟨j, hj⟩ := List.mem_iff_getElem?.1 hy
    obtain ⟨k, rfl, hk⟩ := hb j y hj
    exact List.mem_map.2 ⟨k, List.mem_range.2 hk, rfl⟩
  simpa using this
set_option maxHeartbeats 4000000 in
theorem f28_main (t : Task) (s : List Int) (add : Bool) (ht : isB t = true) (o : List Fr) (d : Dj) (hst : Start t s add d) :
    rest28 13 (env33 t add) ⟨o, frEsO t (gridF (nT t) (waitsOf (epOf t s) (rulesX t).length)) (nT t) (mT t) d⟩ (retW cxm Try.f28.results.toList (PostE t s add)) := by
  refine CutX.mk ?_
  have K := task_ok ht
  have hN := K.facts
  have hfl : (t.facts.map tS).length = t.facts.length := List.length_map ..
  have hnn : nT t = 2 * t.facts.length := by show 2 * (t.facts.map tS).length = _; rw [hfl]
  have hmm : mT t = (rulesX t).length := List.length_map ..
  have hPn : (epOf t s).n = nT t := hnn.symm
  have hPr : (epOf t s).rules.length = mT t := by simp [epOf]
  refine LoopX.mk (Dj × (Int × List Fr)) (fun p => Inv (epOf t s) add p.2.1 (fun _ => p.1.v) (fun _ => True) p.1 ∧ (∀ k, k < 2 * t.facts.length → holdsL s k = true → Tgt p.1 k 0) ∧ mu p.1 ≤ 200300)
    (fun _ => env33 t add) (fun p => ⟨p.2.2, frEsO t (gridF (nT t) (waitsOf (epOf t s) (rulesX t).length)) (nT t) (mT t) p.1⟩) (fun p => mu p.1) (d, 0, o) ⟨hst.inv, hst.tgt, hst.mu⟩ (by obtain ⟨_, _, _, order, _, _, _⟩ := d; cases order <;> exact CutX.mk ⟨rfl, rfl⟩) ?_
  rintro ⟨d, m, o⟩ ⟨hinv, htg, hmu⟩
  simp only at hinv htg hmu
  have hql : d.q.length ≤ mu d := Nat.le_add_right _ _
  have hlen : d.v.length = nT t := hinv.lv.trans hPn
  have hleno : d.op.length = mT t := hinv.lop.trans hPr
  have hlens : d.sm.length = mT t := hinv.lsm.trans hPr
  have hlenb : d.best.length = nT t := hinv.lb.trans hPn
  have hleny : d.by_.length = nT t := hinv.lby.trans hPn
  have hpop := fun h0 => pop_spec (l := d.q) hinv.hp h0
  clear hst
  have hol : d.order.length ≤ nT t := nodup_len hinv.nd fun j x hj => let ⟨k, e1, e2, _⟩ := hinv.b1 j x hj; ⟨k, e1, by rw [← hPn]; exact e2⟩
  obtain ⟨v, by_, best, order, op, sm, q⟩ := d
  simp only at hol hql hlen hleno hlens hlenb hleny hpop
  cases order
  case' nil =>
    let O : List Int := []
  case' cons x r =>
    let O : List Int := x :: r
  all_goals
    refine InvH.val 103 86 m_len ?_
    refine ModH.mk [(3, 376)] (f103_spec q q.length) rfl rfl ⟨rfl, trivial⟩ ?_
    rintro _ _ ⟨rfl, rfl⟩
    refine And.intro rfl ?_
    refine And.intro (fun h1 => ?_) fun h1 => ?_
    · have hq0 : 0 < q.length := by have := of_decide_eq_true h1; omega
      obtain ⟨p1, p2, p3, p4, p5⟩ := hpop hq0
      have hx0m : at_ q 0 ∈ q := p3.mem_iff.2 (List.mem_cons_self ..)
      obtain ⟨k, hk1, hk2, hk3, hk4, hk5, hk6⟩ := hinv.q1 _ hx0m
      have hat : at_ (popL q) (q.length - 1) = ((k : Int), (at_ q 0).2) := by rw [p2]; exact Prod.ext hk1 rfl
      have hq'l : ((popL q).take (q.length - 1)).length = q.length - 1 := by rw [List.length_take]; omega
      have hspec := f54_spec q hq0 (by omega)
      rw [hat] at hspec
      have hp4 : HP ((popL q).take (q.length - 1)) ((popL q).take (q.length - 1)).length := by rw [hq'l]; exact p4
      generalize hqq : (popL q).take (q.length - 1) = q' at *
      have hkn : k < nT t := by rw [← hPn]; exact hk2
      have hkv : k < v.length := by omega
      have hu0 : 0 ≤ (at_ q 0).2 := Int.le_trans hinv.m0 hk3
      have hmuq : ∀ (v' b1 b2 o1 s1 : List Int), mu ⟨v', b1, b2, o1, op, s1, q'⟩ + 1 = mu ⟨v, by_, best, O, op, sm, q⟩ := fun _ _ _ _ _ => by unfold mu; simp only; omega
      refine ModH.mk [(1, 384), (3, 376)] hspec rfl rfl ⟨rfl, rfl, trivial⟩ ?_
      rintro _ _ ⟨rfl, rfl⟩
      refine And.intro rfl ?_
      refine And.intro (by show (0 : Int) ≤ (k : Int); omega) (And.intro (by show (k : Int) < (nT t : Nat); omega) (Exists.intro _ (And.intro (getI hkv) ?_)))
      refine And.intro (fun h2 => ?_) fun h2 => ?_
      · have hkv0 : 0 ≤ ev v k := by have h2' : decide (ev v k ≥ 0) = true := h2; simpa using h2'
        have hi2 := pop_late hinv p3 hp4 p5 hk1 hkv0
        refine Exists.intro (⟨v, by_, best, O, op, sm, q'⟩, (at_ q 0).2, []) (And.intro ?_ (And.intro ⟨hi2, htg, ?_⟩ (CutX.mk ⟨rfl, rfl⟩)))
        · have := hmuq v by_ best O sm
          show mu ⟨v, by_, best, O, op, sm, q'⟩ < mu ⟨v, by_, best, O, op, sm, q⟩
          omega
        · have := hmuq v by_ best O sm
          show mu ⟨v, by_, best, O, op, sm, q'⟩ ≤ 200300
          have hmu' : mu ⟨v, by_, best, O, op, sm, q⟩ ≤ 200300 := hmu
          omega
      have hkv0 : ev v k < 0 := by have h2' : decide (ev v k ≥ 0) = false := h2; simpa using h2'
      have hi2 := pop_new hinv p3 hp4 p5 hk1 hkv0 (fun _ => rfl)
      refine And.intro (by show (0 : Int) ≤ (k : Int); omega) (And.intro (by show (k : Int) < (nT t : Nat); omega) (Exists.intro _ (And.intro (getI hkv) (And.intro (Nat.le_refl 1) ?_))))
      have hol2 : O.length ≤ nT t := hol
      have hl9 : ∀ X : List T, ((O.map tI).take (O.map tI).length ++ [X]).length ≤ 100000 := fun X => by rw [List.take_length]; simp; omega
      have hg0 : (gridF (nT t) (waitsOf (epOf t s) (rulesX t).length))[0 + ((k : Nat) : Int).toNat]? = some (wR (waitsOf (epOf t s) (rulesX t).length k)) := by rw [Nat.zero_add, Int.toNat_natCast, gridF_get hkn]
      repeat first
        | refine And.intro (Nat.le_refl _) ?_
        | refine And.intro (Nat.le_trans (Nat.mul_le_mul_right _ (hl9 _)) (Nat.le_of_ble_eq_true rfl)) ?_
        | refine And.intro (Nat.le_trans (hl9 _) (Nat.le_of_ble_eq_true rfl)) ?_
        | refine And.intro (by show (0 : Int) ≤ (k : Int); omega) ?_
        | refine And.intro (by show (k : Int) < (nT t : Nat); omega) ?_
      refine Exists.intro _ (And.intro hg0 ?_)
      have hwm : ∀ i, i ∈ waitsOf (epOf t s) (rulesX t).length k → i < (rulesX t).length ∧ ∃ r, (epOf t s).rules[i]? = some r ∧ k ∈ r.frm := fun i hi => mem_waitsOf.1 hi
      have hwm2 : ∀ i r, (epOf t s).rules[i]? = some r → k ∈ r.frm → i ∈ waitsOf (epOf t s) (rulesX t).length k := fun i r hi hr => mem_waitsOf.2 ⟨by have := (List.getElem?_eq_some_iff.1 hi).1; rw [hPr, hmm] at this; exact this, r, hi, hr⟩
      have hwn : (waitsOf (epOf t s) (rulesX t).length k).Nodup := by
        unfold waitsOf List.Nodup
        exact List.Pairwise.filter _ List.nodup_range
      have hwl : (waitsOf (epOf t s) (rulesX t).length k).length ≤ 100000 := by
        unfold waitsOf
        have e1 := List.length_filter_le (fun i => match (epOf t s).rules[i]? with | some r => r.frm.contains k | none => false) (List.range (rulesX t).length)
        rw [List.length_range] at e1
        have e2 := rulesUp_len K t.acts.length
        have e3 : (rulesX t).length ≤ 100000 := by unfold rulesX; have := K.acts; omega
        exact Nat.le_trans e1 e3
      generalize hWk : waitsOf (epOf t s) (rulesX t).length k = wl at *
      generalize hu : (at_ q 0).2 = u at *
      have e1 : (O.map tI).take (O.map tI).length ++ [tI k] = (O ++ [(k : Int)]).map tI := by rw [List.take_length]; simp
      have hvfar : ∀ z, ev v z ≤ farI := fun z => (hinv.low z).2
      have hi2 : Inv (epOf t s) add u (vsN (epOf t s) k v (v.set k u)) (fun _ => True) ⟨v.set k u, by_, best, O ++ [(k : Int)], op, sm, q'⟩ := hi2
      have htg2 : ∀ z, z < 2 * t.facts.length → holdsL s z = true → Tgt ⟨v.set k u, by_, best, O ++ [(k : Int)], op, sm, q'⟩ z 0 := fun z hz1 hz2 => by
        have h3 : Tgt ⟨v, by_, best, O, op, sm, q⟩ z 0 := htg z hz1 hz2
        by_cases hkz : k = z
        · subst hkz
          left
          show 0 ≤ ev (v.set k u) k ∧ ev (v.set k u) k ≤ 0
          rw [ev_set hkv, if_pos rfl]
          rcases h3 with ⟨h4, _⟩ | ⟨_, h5, h6⟩
          · exact absurd h4 (Int.not_le.2 hkv0)
          · have := p5 _ (hinv.q2 k h5 hkv0)
            simp only at h6 this
            exact ⟨hu0, by omega⟩
        · unfold Tgt
          show (0 ≤ ev (v.set k u) z ∧ ev (v.set k u) z ≤ 0) ∨ (ev (v.set k u) z < 0 ∧ _)
          rw [ev_set hkv, if_neg hkz]
          exact h3
      have hmu2 : mu ⟨v.set k u, by_, best, O ++ [(k : Int)], op, sm, q'⟩ + 1 = mu ⟨v, by_, best, O, op, sm, q⟩ := hmuq _ _ _ _ _
      have hmu3 : mu ⟨v, by_, best, O, op, sm, q⟩ ≤ 200300 := hmu
      have hvlen : (v.set k u).length = nT t := by rw [List.length_set]; exact hlen
      clear hinv htg hmu hpop p1 p2 p3 p4 p5 hat hspec hp4 hmuq hg0 hl9
      cases wl
      case' nil => let V162 : LV := .t (.sl true 0 [])
      case' cons y l => let V162 : LV := .osl (.sub (.cur 320) (0 + ((k : Nat) : Int).toNat)) 1 0 ((y :: l).map fun z : Nat => tI (z : Int)).length
      case' nil => let WL : List Nat := []
      case' cons y l => let WL : List Nat := y :: l
      all_goals
        refine LoopX.mk (Nat × (List Int × (List Int × (List Int × (List Int × (List Heap.Item × List Fr))))))
          (fun p => p.1 ≤ WL.length ∧ Inv (epOf t s) add u (fun i => if i ∈ WL.take p.1 then v.set k u else vsN (epOf t s) k v (v.set k u) i) (fun _ => True) ⟨v.set k u, p.2.1, p.2.2.1, O ++ [(k : Int)], p.2.2.2.1, p.2.2.2.2.1, p.2.2.2.2.2.1⟩ ∧
            (∀ z, z < 2 * t.facts.length → holdsL s z = true → Tgt ⟨v.set k u, p.2.1, p.2.2.1, O ++ [(k : Int)], p.2.2.2.1, p.2.2.2.2.1, p.2.2.2.2.2.1⟩ z 0) ∧ mu ⟨v.set k u, p.2.1, p.2.2.1, O ++ [(k : Int)], p.2.2.2.1, p.2.2.2.2.1, p.2.2.2.2.2.1⟩ + 1 ≤ mu ⟨v, by_, best, O, op, sm, q⟩)
          (fun p => env33 t add ++ [(25, .ptr (.cur 200) 0), (162, V162), (163, .int WL.length), (164, .int p.1)])
          (fun p => ⟨p.2.2.2.2.2.2, (200, .box [.int k, .int u]) :: frEsR t (gridF (nT t) (waitsOf (epOf t s) (rulesX t).length)) (nT t) (mT t) ⟨v.set k u, p.2.1, p.2.2.1, O ++ [(k : Int)], p.2.2.2.1, p.2.2.2.2.1, p.2.2.2.2.2.1⟩ ((v.set k u).map tI) ((O ++ [(k : Int)]).map tI)⟩)
          (fun p => WL.length - p.1) (0, by_, best, op, sm, q', []) ⟨Nat.zero_le _, ?_, htg2, by show mu ⟨v.set k u, by_, best, O ++ [(k : Int)], op, sm, q'⟩ + 1 ≤ _; omega⟩ ⟨?_, ?_⟩ ?_
        · exact hi2
        · first
            | rfl
            | (have e : (WL.length : Int) = ((((y :: l).map fun z : Nat => tI (z : Int)).length : Nat) : Int) := by rw [List.length_map]
               show _ = env33 t add ++ [(25, .ptr (.cur 200) 0), (162, V162), (163, .int WL.length), (164, .int (0 : Nat))]
               rw [e]; rfl)
        · show _ = (⟨[], (200, .box [.int k, .int u]) :: frEsR t (gridF (nT t) (waitsOf (epOf t s) (rulesX t).length)) (nT t) (mT t) ⟨v.set k u, by_, best, O ++ [(k : Int)], op, sm, q'⟩ ((v.set k u).map tI) ((O ++ [(k : Int)]).map tI)⟩ : St)
          rw [← setI, ← e1]; rfl
        rintro ⟨j, by', best', op', sm', q2, o2⟩ ⟨hj0, hi3, htg3, hmu4⟩
        simp only at hj0 hi3 htg3 hmu4
        refine And.intro (fun h3 => ?_) fun h3 => ?_
        · first
            | exact absurd (Int.ofNat_lt.1 (of_decide_eq_true h3)) (Nat.not_lt_zero _)
            | skip
          all_goals
            have hj : j < WL.length := by have := of_decide_eq_true h3; omega
            have hjl : j ≤ 100000 := by have : WL.length ≤ 100000 := hwl; omega
            have hlw : ((y :: l).map fun z : Nat => tI (z : Int)).length = WL.length := List.length_map ..
            have hgj : ((y :: l).map fun z : Nat => tI (z : Int))[0 + ((j : Nat) : Int).toNat]? = some (tI ((WL[j] : Nat) : Int)) := by
              rw [Nat.zero_add, Int.toNat_natCast, List.getElem?_map]
              show Option.map _ (WL[j]?) = _
              rw [List.getElem?_eq_getElem hj]; rfl
            obtain ⟨hiR, r0, hr0, hkr0⟩ := hwm WL[j] (List.getElem_mem hj)
            obtain ⟨a, kk, fr, xa, R⟩ := rule_at ht s hiR
            have hr0e : r0 = ⟨a, kk, fr, xa.cost⟩ := Option.some.inj (hr0.symm.trans R.re)
            subst hr0e
            have hnot : WL[j] ∉ WL.take j := fun hm => by
              obtain ⟨q, hq, he⟩ := List.mem_take_iff_getElem.1 hm
              exact List.pairwise_iff_getElem.1 hwn q j (Nat.lt_of_lt_of_le hq (Nat.min_le_right _ _)) hj (Nat.lt_of_lt_of_le hq (Nat.min_le_left _ _)) he
            have hvsj : (fun i => if i ∈ WL.take j then v.set k u else vsN (epOf t s) k v (v.set k u) i) WL[j] = v := by
              show (if WL[j] ∈ WL.take j then _ else _) = _
              rw [if_neg hnot, vsN_eq R.re, if_pos hkr0]
            have hop' : op'.length = mT t := hi3.lop.trans hPr
            have hsm' : sm'.length = mT t := hi3.lsm.trans hPr
            have hiop : WL[j] < op'.length := by rw [hop', hmm]; exact hiR
            have hism : WL[j] < sm'.length := by rw [hsm', hmm]; exact hiR
            obtain ⟨⟨b1, b2⟩, b3, b4⟩ := cnt_bounds hi3 R.re trivial (fun z => by rw [show (if WL[j] ∈ WL.take j then v.set k u else vsN (epOf t s) k v (v.set k u) WL[j]) = v from hvsj]; exact hvfar z)
            simp only at b1 b2 b3 b4
            have hfrl : fr.length ≤ 400 := by
              have hsub : fr.length ≤ (List.range (2 * t.facts.length)).length := List.Nodup.length_le_of_subset R.nd fun y hy => List.mem_range.2 (R.frm y hy)
              rw [List.length_range] at hsub; omega
            obtain ⟨g1, g2⟩ := hear_inv (epOf_ok ht s) hi3 R.re trivial hvsj hkr0 (by rfl) hkv0 hkv
            refine And.intro (by show (0 : Int) ≤ (j : Int); omega) (And.intro (by show (j : Int) < ((((y :: l).map fun z : Nat => tI (z : Int)).length : Nat) : Int); rw [hlw]; omega) ?_)
            have hg0 : (gridF (nT t) (waitsOf (epOf t s) (rulesX t).length))[0 + ((k : Nat) : Int).toNat]? = some (.row ((y :: l).map fun z : Nat => tI (z : Int))) := by rw [Nat.zero_add, Int.toNat_natCast, gridF_get hkn, hWk]; rfl
            refine Exists.intro _ (And.intro hg0 (Exists.intro _ (And.intro hgj ?_)))
            have hib : ((WL[j] : Nat) : Int) < (mT t : Nat) := by rw [hmm]; omega
            refine And.intro (by omega) (And.intro hib (Exists.intro _ (And.intro (getI hiop) ?_)))
            refine And.intro (by show (-9223372036854775808 : Int) ≤ ev op' WL[j] - 1; omega) (And.intro (by show ev op' WL[j] - 1 ≤ 9223372036854775807; omega) ?_)
            refine And.intro (by omega) (And.intro hib (Exists.intro _ (And.intro (getI hiop) (And.intro (Nat.le_refl 1) ?_))))
            cases add
            case' false =>
              let SV : Int := if u > ev sm' WL[j] then u else ev sm' WL[j]
              have hSV : max (ev sm' WL[j]) u = SV := by simp only [SV]; split <;> omega
              have hSV0 : 0 ≤ SV ∧ SV ≤ farI := by rw [← hSV]; omega
              refine And.intro (by omega) (And.intro hib (Exists.intro _ (And.intro (getI hism) ?_)))
              refine And.intro (by omega) (And.intro hib (Exists.intro _ (And.intro (getI hism) (And.intro (Nat.le_refl 1) ?_))))
            case' true =>
              let SV : Int := if ev sm' WL[j] + u < 1099511627777 then ev sm' WL[j] + u else 1099511627777
              have hSV : min farI (ev sm' WL[j] + u) = SV := by simp only [SV]; unfold farI; split <;> omega
              have hSV0 : 0 ≤ SV ∧ SV ≤ farI := by rw [← hSV]; have : (0 : Int) ≤ farI := by decide
                                                   omega
              refine And.intro (by omega) (And.intro hib (Exists.intro _ (And.intro (getI hism) ?_)))
              refine And.intro (by show (-9223372036854775808 : Int) ≤ ev sm' WL[j] + u; omega) (And.intro (by show ev sm' WL[j] + u ≤ 9223372036854775807; unfold farI at *; omega) ?_)
              refine And.intro (by omega) (And.intro hib (Exists.intro _ (And.intro (getI hism) (And.intro (Nat.le_refl 1) ?_))))
            all_goals
              have hop1 : WL[j] < (op'.set WL[j] (ev op' WL[j] - 1)).length := by rw [List.length_set]; exact hiop
              have hgo : ((op'.map tI).set (0 + ((WL[j] : Nat) : Int).toNat) (tI (ev op' WL[j] - 1)))[0 + ((WL[j] : Nat) : Int).toNat]? = some (tI (ev op' WL[j] - 1)) := by
                rw [setI, getI hop1, ev_set hiop, if_pos rfl]
              refine And.intro (by omega) (And.intro hib (Exists.intro _ (And.intro hgo ?_)))
              have eop : ∀ z : Int, (op'.set WL[j] z).map tI = (op'.map tI).set (0 + ((WL[j] : Nat) : Int).toNat) (tI z) := fun z => setI.symm
              have esm : ∀ z : Int, (sm'.set WL[j] z).map tI = (sm'.map tI).set (0 + ((WL[j] : Nat) : Int).toNat) (tI z) := fun z => setI.symm
              refine And.intro (fun h4 => ?_) fun h4 => ?_
              · have hz : ev op' WL[j] - 1 = 0 := eq_of_beq h4
                unfold hear at g1 g2
                simp only [if_true, Bool.false_eq_true, if_false, hSV] at g1 g2
                rw [if_pos hz] at g1 g2
                have hsv : ev (sm'.set WL[j] SV) WL[j] = SV := by rw [ev_set hism, if_pos rfl]
                have hspec := f52_spec t (rulesX t).isEmpty (rulesX t) (nT t) (mT t) ⟨v.set k u, by', best', O ++ [(k : Int)], op'.set WL[j] (ev op' WL[j] - 1), sm'.set WL[j] SV, q2⟩ WL[j] a kk (fr.map Int.ofNat) xa
                  ⟨hvlen, hi3.lby.trans hPn, hi3.lb.trans hPn⟩ (by show (sm'.set _ _).length = _; rw [List.length_set]; exact hsm') R.rx R.act (by rw [hmm]; exact hiR) (by rw [hnn]; exact R.to)
                  (by have : q2.length ≤ mu ⟨v.set k u, by', best', O ++ [(k : Int)], op', sm', q2⟩ := Nat.le_add_right _ _
                      show q2.length < 1000000; omega) (by show 0 ≤ ev (sm'.set WL[j] SV) WL[j] ∧ ev (sm'.set WL[j] SV) WL[j] ≤ farI; rw [hsv]; exact hSV0) R.cost
                have g1' : Inv (epOf t s) _ u _ (fun _ => True) (offer ⟨v.set k u, by', best', O ++ [(k : Int)], op'.set WL[j] (ev op' WL[j] - 1), sm'.set WL[j] SV, q2⟩ kk (min farI (ev (sm'.set WL[j] SV) WL[j] + xa.cost)) (WL[j] : Int)) := g1
                have g2' : mu (offer ⟨v.set k u, by', best', O ++ [(k : Int)], op'.set WL[j] (ev op' WL[j] - 1), sm'.set WL[j] SV, q2⟩ kk (min farI (ev (sm'.set WL[j] SV) WL[j] + xa.cost)) (WL[j] : Int)) ≤ mu ⟨v.set k u, by', best', O ++ [(k : Int)], op', sm', q2⟩ := g2
                have htg4 : ∀ z, z < 2 * t.facts.length → holdsL s z = true → Tgt (offer ⟨v.set k u, by', best', O ++ [(k : Int)], op'.set WL[j] (ev op' WL[j] - 1), sm'.set WL[j] SV, q2⟩ kk (min farI (ev (sm'.set WL[j] SV) WL[j] + xa.cost)) (WL[j] : Int)) z 0 := fun z hz1 hz2 =>
                  offer_tgt (by show kk < best'.length; rw [show best'.length = nT t from hi3.lb.trans hPn, hnn]; exact R.to) (by rw [hsv]; exact Int.le_min.2 ⟨by decide, by have := R.cost.1; omega⟩) (htg3 z hz1 hz2)
                clear g1 g2
                obtain ⟨c1, c2, c3, he⟩ := offer_form (v.set k u) by' best' (O ++ [(k : Int)]) (op'.set WL[j] (ev op' WL[j] - 1)) (sm'.set WL[j] SV) q2 kk (min farI (ev (sm'.set WL[j] SV) WL[j] + xa.cost)) (WL[j] : Int)
                rw [he] at g1' g2' htg4
                simp only [he] at hspec
                simp only [frF, frO, rowI, esm] at hspec
                refine ModH.mkx ρF [(162, V162)] hspec rfl rfl (by repeat (first | exact trivial | refine And.intro rfl ?_)) ⟨⟨rfl, 320, 0 + ((k : Nat) : Int).toNat, 1, 0, _, .row 3 1 (WL.map fun z : Nat => tI (z : Int)), rfl, rfl, ?_⟩, trivial⟩ ?_
                · show (match (gridF (nT t) (waitsOf (epOf t s) (rulesX t).length))[0 + ((k : Nat) : Int).toNat]? with | some (.row es) => some (Ob.row 3 1 es) | _ => none) = _
                  rw [hg0]
                rintro _ _ ⟨rfl, rfl⟩
                refine And.intro rfl ?_
                refine And.intro (by show (-9223372036854775808 : Int) ≤ (j : Int) + 1; omega) (And.intro (by show (j : Int) + 1 ≤ 9223372036854775807; omega) ?_)
                have g3 : Inv (epOf t s) _ u (fun i => if i ∈ WL.take (j + 1) then v.set k u else vsN (epOf t s) k v (v.set k u) i) (fun _ => True) ⟨v.set k u, c1, c2, O ++ [(k : Int)], op'.set WL[j] (ev op' WL[j] - 1), sm'.set WL[j] SV, c3⟩ := g1'.vs fun i r hi _ => ⟨trivial, by rw [vsj_step hj]⟩
                refine Exists.intro (j + 1, c1, c2, op'.set WL[j] (ev op' WL[j] - 1), sm'.set WL[j] SV, c3, []) (And.intro (by show WL.length - (j + 1) < WL.length - j; omega) (And.intro ⟨hj, g3, htg4, Nat.le_trans (Nat.succ_le_succ g2') hmu4⟩ ⟨rfl, ?_⟩))
                show _ = (⟨[], (200, .box [.int k, .int u]) :: frEsR t (gridF (nT t) (waitsOf (epOf t s) (rulesX t).length)) (nT t) (mT t) ⟨v.set k u, c1, c2, O ++ [(k : Int)], op'.set WL[j] (ev op' WL[j] - 1), sm'.set WL[j] SV, c3⟩ ((v.set k u).map tI) ((O ++ [(k : Int)]).map tI)⟩ : St)
                simp only [frEsR, rowI, eop, esm]
                rfl
              · have hz : ¬ ev op' WL[j] - 1 = 0 := fun he => by
                  have : (ev op' WL[j] - 1 == 0) = false := h4
                  rw [he] at this; cases this
                unfold hear at g1 g2
                simp only [if_true, Bool.false_eq_true, if_false, hSV] at g1 g2
                rw [if_neg hz] at g1 g2
                have g3 : Inv (epOf t s) _ u (fun i => if i ∈ WL.take (j + 1) then v.set k u else vsN (epOf t s) k v (v.set k u) i) (fun _ => True) ⟨v.set k u, by', best', O ++ [(k : Int)], op'.set WL[j] (ev op' WL[j] - 1), sm'.set WL[j] SV, q2⟩ := g1.vs fun i r hi _ => ⟨trivial, by rw [vsj_step hj]⟩
                refine And.intro (by show (-9223372036854775808 : Int) ≤ (j : Int) + 1; omega) (And.intro (by show (j : Int) + 1 ≤ 9223372036854775807; omega) ?_)
                refine Exists.intro (j + 1, by', best', op'.set WL[j] (ev op' WL[j] - 1), sm'.set WL[j] SV, q2, o2) (And.intro (by show WL.length - (j + 1) < WL.length - j; omega) (And.intro ⟨hj, ?_, ?_, ?_⟩ ⟨rfl, ?_⟩))
                · exact g3
                · exact htg3
                · show mu ⟨v.set k u, by', best', O ++ [(k : Int)], op'.set WL[j] (ev op' WL[j] - 1), sm'.set WL[j] SV, q2⟩ + 1 ≤ _
                  exact Nat.le_trans (Nat.succ_le_succ g2) hmu4
                · show _ = (⟨o2, (200, .box [.int k, .int u]) :: frEsR t (gridF (nT t) (waitsOf (epOf t s) (rulesX t).length)) (nT t) (mT t) ⟨v.set k u, by', best', O ++ [(k : Int)], op'.set WL[j] (ev op' WL[j] - 1), sm'.set WL[j] SV, q2⟩ ((v.set k u).map tI) ((O ++ [(k : Int)]).map tI)⟩ : St)
                  simp only [frEsR, rowI, eop, esm]
                  rfl
        · have hje : j = WL.length := by have := of_decide_eq_false h3; omega
          refine Exists.intro (⟨v.set k u, by', best', O ++ [(k : Int)], op', sm', q2⟩, u, o2) (And.intro (by show mu ⟨v.set k u, by', best', O ++ [(k : Int)], op', sm', q2⟩ < mu ⟨v, by_, best, O, op, sm, q⟩; omega) (And.intro ⟨hi3.vs fun i r hi _ => ⟨trivial, ?_⟩, htg3, by show mu ⟨v.set k u, by', best', O ++ [(k : Int)], op', sm', q2⟩ ≤ 200300; omega⟩ (CutX.mk ⟨rfl, rfl⟩)))
          rw [hje, List.take_length, vsN_eq hi]
          show v.set k u = _
          split
          · rfl
          · rename_i hni
            rw [if_neg]
            intro hkr
            exact hni (hwm2 i r hi hkr)
    · have hq0 : q = [] := by
        have h1' : ¬ ((q.length : Int) > 0) := of_decide_eq_false h1
        exact List.eq_nil_of_length_eq_zero (by omega)
      have hE : IsE (epOf t s) add v := end_isE hinv hq0 (fun _ => rfl) fun k hk hh => htg k hk hh
      exact Exists.intro [280, 296, 1248] ⟨⟨v, by_, best, O, op, sm, q⟩, ⟨hE, hleny.trans hnn, fun j x hj => by obtain ⟨k, e1, e2, e3⟩ := hinv.b1 j x hj; exact ⟨k, e1, e2, e3⟩, hinv.b3, hinv.nd, fun k => (hinv.low k).2⟩, rfl, rfl⟩

end Go.Fw

/- What the program's functions do: estimates, what holds and the rules. -/
namespace Go.Fw
open Go Go.Proofs Heap
set_option maxRecDepth 10000

theorem ih' (add : Bool) : ∀ (l : List Nat) (n : Nat), comb add (List.replicate n (-1)) l = 0
  | [], _ => rfl
  | z :: r, n => by
    unfold comb
    rw [ev_rep, ih' add r n]
    cases add <;> rfl
theorem countP_set_le (p : Int → Bool) (l : List Int) (i : Nat) (x : Int) : (l.set i x).countP p ≤ l.countP p + (if p x then 1 else 0) := by
  induction l generalizing i with
  | nil => simp
  | cons y r ih =>
    cases i with
    | zero => simp only [List.set_cons_zero, List.countP_cons]; split <;> split <;> omega
    | succ i => simp only [List.set_cons_succ, List.countP_cons]; have := ih i; omega
/-- The literal of a fact that holds. -/
def litN (x : Nat) (b : Bool) : Nat := match b with
  | true => 2 * x
  | false => 2 * x + 1
theorem f28_facts (t : Task) (n1 : Bool) (s : List Int) (add : Bool) (ht : isB t = true) (hs : risingB s t.facts.length = true) (out : List Fr) :
    rest28 9 (envEst t n1 s add) ⟨out, frEst t (List.replicate (nT t) .nil) (nT t) (mT t) (dj0 (nT t) (mT t))⟩ (retW cxm Try.f28.results.toList (PostE t s add)) := by
  refine CutX.mk ?_
  have K := task_ok ht
  have hN := K.facts
  have hfl : (t.facts.map tS).length = t.facts.length := List.length_map ..
  have hfi : ((t.facts.length : Nat) : Int) ≤ 200 := by omega
  refine LoopX.mk (Nat × (List Int × (List Int × (List Heap.Item × List Fr)))) (fun p => p.1 ≤ t.facts.length ∧ Inv (epOf t s) add 0 (fun _ => List.replicate (nT t) (-1)) (fun _ => False) ⟨List.replicate (nT t) (-1), p.2.1, p.2.2.1, [], List.replicate (mT t) 0, List.replicate (mT t) 0, p.2.2.2.1⟩ ∧
      (∀ k, k < 2 * p.1 → holdsL s k = true → Tgt ⟨List.replicate (nT t) (-1), p.2.1, p.2.2.1, [], List.replicate (mT t) 0, List.replicate (mT t) 0, p.2.2.2.1⟩ k 0) ∧ p.2.2.2.1.length ≤ p.1)
    (fun p => envEst t n1 s add ++ [(16, .ptr (.cur 128) 0), (17, fireV), (73, .int (t.facts.map tS).length), (74, .int p.1)])
    (fun p => ⟨p.2.2.2.2, frEsO t (List.replicate (nT t) .nil) (nT t) (mT t) ⟨List.replicate (nT t) (-1), p.2.1, p.2.2.1, [], List.replicate (mT t) 0, List.replicate (mT t) 0, p.2.2.2.1⟩⟩)
    (fun p => t.facts.length - p.1) (0, List.replicate (nT t) (-1), List.replicate (nT t) (-1), [], out) ⟨Nat.zero_le _, ?_, fun k hk => by omega, Nat.le_refl _⟩ ⟨rfl, rfl⟩ ?_
  · have := inv0 (epOf t s) add (fun _ => List.replicate (nT t) (-1))
    have e1 : (epOf t s).n = nT t := by show 2 * t.facts.length = 2 * (t.facts.map tS).length; rw [hfl]
    have e2 : (epOf t s).rules.length = mT t := by simp [epOf]
    rw [e1, e2] at this
    exact this
  rintro ⟨x, b1, b2, q, o⟩ ⟨hx0, hinv, htg, hq⟩
  simp only at hx0 hinv htg hq
  refine And.intro (fun h1 => ?_) fun h1 => ?_
  · have hx : x < t.facts.length := by have := of_decide_eq_true h1; omega
    refine SpecP.mono (f53_spec n1 s t.facts.length x hs (by omega) []) ?_
    rintro _ _ ⟨p, rfl, rfl⟩
    have hbig : big (x : Int) := by unfold big; omega
    have hn : nT t = 2 * t.facts.length := by show 2 * (t.facts.map tS).length = _; rw [hfl]
    have hlen : LenD (nT t) ⟨List.replicate (nT t) (-1), b1, b2, [], List.replicate (mT t) 0, List.replicate (mT t) 0, q⟩ := ⟨by simp, by have := hinv.lby; simp only at this; rw [this]; exact hn.symm, by have := hinv.lb; simp only at this; rw [this]; exact hn.symm⟩
    have main : ∀ b : Bool, hasB s x = b → ∃ c1 c2 q', SpecM Try.prog 50 [.int (litN x b), .int 0, .int (-1), .ptr (.cur 21) 0, .ptr (.cur 24) 0, .ptr (.cur 26) 0] (frO (nT t) ⟨List.replicate (nT t) (-1), b1, b2, [], List.replicate (mT t) 0, List.replicate (mT t) 0, q⟩) pinsO (fun r ro => r = .tup [] ∧ ro = frO (nT t) ⟨List.replicate (nT t) (-1), c1, c2, [], List.replicate (mT t) 0, List.replicate (mT t) 0, q'⟩) ∧
        Inv (epOf t s) add 0 (fun _ => List.replicate (nT t) (-1)) (fun _ => False) ⟨List.replicate (nT t) (-1), c1, c2, [], List.replicate (mT t) 0, List.replicate (mT t) 0, q'⟩ ∧
        (∀ k, k < 2 * (x + 1) → holdsL s k = true → Tgt ⟨List.replicate (nT t) (-1), c1, c2, [], List.replicate (mT t) 0, List.replicate (mT t) 0, q'⟩ k 0) ∧ q'.length ≤ x + 1 := by
      intro b hb
      obtain ⟨c1, c2, q', he⟩ := offer_form (List.replicate (nT t) (-1)) b1 b2 [] (List.replicate (mT t) 0) (List.replicate (mT t) 0) q (litN x b) 0 (-1)
      have hk : litN x b < (epOf t s).n := by show _ < 2 * t.facts.length; unfold litN; cases b <;> (simp only; omega)
      have hh : (epOf t s).holds (litN x b) = true := by
        show holdsL s _ = true
        unfold holdsL
        cases b
        · rw [show litN x false / 2 = x by show (2 * x + 1) / 2 = x; omega, hb]; show (false != decide ((2 * x + 1) % 2 = 1)) = true; rw [show (2 * x + 1) % 2 = 1 by omega]; rfl
        · rw [show litN x true / 2 = x by show (2 * x) / 2 = x; omega, hb]; show (true != decide ((2 * x) % 2 = 1)) = true; rw [show (2 * x) % 2 = 0 by omega]; rfl
      obtain ⟨g1, g2, g3⟩ := offer_inv (b := -1) hinv hk (Jus.ini hk hh) (Int.le_refl 0) (by unfold farI; omega) (.inl ⟨rfl, hh⟩)
      have g4 := offer_q ⟨List.replicate (nT t) (-1), b1, b2, [], List.replicate (mT t) 0, List.replicate (mT t) 0, q⟩ (litN x b) 0 (-1)
      rw [he] at g1 g2 g3 g4
      have hspec := f50_spec (nT t) ⟨List.replicate (nT t) (-1), b1, b2, [], List.replicate (mT t) 0, List.replicate (mT t) 0, q⟩ (litN x b) 0 (-1) hlen (by rw [hn]; unfold litN; cases b <;> (simp only; omega)) (by show q.length < 1000000; omega)
      rw [he] at hspec
      refine ⟨c1, c2, q', hspec, g1, fun k hk hkh => ?_, by simp only at g4; omega⟩
      by_cases h2 : k < 2 * x
      · exact g3 _ _ (htg k h2 hkh)
      · have : k = litN x b := by
          unfold holdsL at hkh
          rw [show k / 2 = x by omega, hb] at hkh
          unfold litN
          cases b <;> simp at hkh ⊢ <;> omega
        rw [this]; exact g2
    refine And.intro (fun h2 => ?_) fun h2 => ?_
    all_goals
      obtain ⟨c1, c2, q', hspec, g1, g2, g3⟩ := main _ h2
      refine SpecP.mono (f29_spec ⟨x, _⟩ hbig []) ?_
      rintro _ _ ⟨rfl, rfl⟩
      repeat (refine And.intro rfl ?_)
      refine ModH.mk ρO hspec rfl rfl (by first | exact ⟨rfl, rfl, rfl, rfl, rfl, rfl, rfl, rfl, trivial⟩ | exact ⟨rfl, rfl, rfl, rfl, rfl, rfl, rfl, rfl, rfl, trivial⟩) ?_
      rintro _ _ ⟨rfl, rfl⟩
      refine And.intro rfl ?_
      refine And.intro rfl ?_
      refine And.intro (by show (-9223372036854775808 : Int) ≤ (x : Int) + 1; omega) (And.intro (by show (x : Int) + 1 ≤ 9223372036854775807; omega) ?_)
      exact Exists.intro (x + 1, c1, c2, q', []) (And.intro (by show t.facts.length - (x + 1) < t.facts.length - x; omega) (And.intro ⟨hx, g1, g2, g3⟩ (And.intro rfl rfl)))
  have hxe : x = t.facts.length := by have := of_decide_eq_false h1; omega
  subst hxe
  clear h1 hx0
  have hnn : nT t = 2 * t.facts.length := by show 2 * (t.facts.map tS).length = _; rw [hfl]
  have hmm : mT t = (rulesX t).length := List.length_map ..
  have hrl := rulesUp_len K t.acts.length
  have hml : mT t ≤ 100000 := by rw [hmm]; unfold rulesX; have := K.acts; omega
  have hw0 : ∀ (k : Nat), waitsOf (epOf t s) 0 k = [] := fun k => by simp [waitsOf]
  refine LoopX.mk (Nat × (List Int × (List Int × (List Int × (List Heap.Item × (List Fr × List GR)))))) (fun p => p.1 ≤ (rulesX t).length ∧ Inv (epOf t s) add 0 (fun _ => List.replicate (nT t) (-1)) (fun j => j < p.1) ⟨List.replicate (nT t) (-1), p.2.1, p.2.2.1, [], p.2.2.2.1, List.replicate (mT t) 0, p.2.2.2.2.1⟩ ∧
      (∀ k, k < 2 * t.facts.length → holdsL s k = true → Tgt ⟨List.replicate (nT t) (-1), p.2.1, p.2.2.1, [], p.2.2.2.1, List.replicate (mT t) 0, p.2.2.2.2.1⟩ k 0) ∧ mu ⟨List.replicate (nT t) (-1), p.2.1, p.2.2.1, [], p.2.2.2.1, List.replicate (mT t) 0, p.2.2.2.2.1⟩ ≤ 200 + p.1 ∧ p.2.2.2.2.2.2 = gridF (nT t) (waitsOf (epOf t s) p.1))
    (fun p => [(2, .bool add), (3, .ptr (.cur 24) 0), (6, .ptr (.cur 48) 0), (8, .ptr (.cur 64) 0), (9, .ptr (.cur 72) 0), (10, .osl (.cur 320) 1 0 (nT t)), (11, .osl (.cur 344) 1 0 (mT t)), (12, .ptr (.cur 96) 0), (13, .ptr (.cur 104) 0), (14, .ptr (.cur 112) 0), (16, .ptr (.cur 128) 0), (17, fireV), (91, .t (.sl (rulesX t).isEmpty 3 ((rulesX t).map tRY))), (92, .int ((rulesX t).map tRY).length), (93, .int p.1)])
    (fun p => ⟨p.2.2.2.2.2.1, frEsO t p.2.2.2.2.2.2 (nT t) (mT t) ⟨List.replicate (nT t) (-1), p.2.1, p.2.2.1, [], p.2.2.2.1, List.replicate (mT t) 0, p.2.2.2.2.1⟩⟩)
    (fun p => (rulesX t).length - p.1) (0, b1, b2, List.replicate (mT t) 0, q, o, List.replicate (nT t) .nil) ⟨Nat.zero_le _, hinv.vs fun _ _ _ h => absurd h (Nat.not_lt_zero _), htg, ?_, ?_⟩ ⟨rfl, rfl⟩ ?_
  · show q.length + (List.replicate (mT t) (0 : Int)).countP _ ≤ 200 + 0
    rw [List.countP_replicate]; simp; omega
  · show List.replicate (nT t) GR.nil = _
    unfold gridF
    simp only [hw0, wR]
    refine List.ext_getElem? fun k => ?_
    simp only [List.getElem?_map, List.getElem?_replicate]
    by_cases hk : k < nT t
    · simp [hk]
    · simp [hk]
  clear hinv htg hq
  rintro ⟨i, b1, b2, op, q, o, W⟩ ⟨hi0, hinv, htg, hmu, hW⟩
  simp only at hi0 hinv htg hmu hW
  refine And.intro (fun h1 => ?_) fun h1 => ?_
  · have hi : i < (rulesX t).length := by have := of_decide_eq_true h1; rw [List.length_map] at this; omega
    obtain ⟨a, k, fr, x, R⟩ := rule_at ht s hi
    have hget : ((rulesX t).map tRY)[((i : Int)).toNat]? = some (tRY ⟨(a : Int), (k : Int), fr.map Int.ofNat⟩) := by rw [Int.toNat_natCast, List.getElem?_map, R.rx]; rfl
    have hopl : op.length = mT t := by have := hinv.lop; simp only at this; rw [this, hmm]; simp [epOf]
    have hiop : i < op.length := by omega
    refine And.intro (by omega) (Exists.intro _ (And.intro hget ?_))
    refine And.intro (by omega) (And.intro (by show (i : Int) < (mT t : Nat); omega) (Exists.intro _ (And.intro (getI hiop) (And.intro (Nat.le_refl 1) ?_))))
    have hks : ∀ j (hj : j < fr.length), fr[j] < nT t := fun j hj => by rw [hnn]; exact R.frm _ (List.getElem_mem hj)
    have hfm : ((fr.map Int.ofNat).map tI).length = fr.length := by simp
    have hfl2 : fr.length ≤ 2000000000 := by
      have := R.nd
      have hsub : fr.length ≤ (List.range (2 * t.facts.length)).length := List.Nodup.length_le_of_subset R.nd fun y hy => List.mem_range.2 (R.frm y hy)
      rw [List.length_range] at hsub; omega
    refine LoopX.mk (Nat × List GR) (fun p => p.1 ≤ fr.length ∧ p.2 = gridF (nT t) (fun k => if k ∈ fr.take p.1 then waitsOf (epOf t s) i k ++ [i] else waitsOf (epOf t s) i k))
      (fun p => [(2, .bool add), (3, .ptr (.cur 24) 0), (6, .ptr (.cur 48) 0), (8, .ptr (.cur 64) 0), (9, .ptr (.cur 72) 0), (10, .osl (.cur 320) 1 0 (nT t)), (11, .osl (.cur 344) 1 0 (mT t)), (12, .ptr (.cur 96) 0), (13, .ptr (.cur 104) 0), (14, .ptr (.cur 112) 0), (16, .ptr (.cur 128) 0), (17, fireV), (21, .int i), (22, .ptr (.cur 176) 0), (91, .t (.sl (rulesX t).isEmpty 3 ((rulesX t).map tRY))), (92, .int ((rulesX t).map tRY).length), (93, .int i), (105, .t (.sl (fr.map Int.ofNat).isEmpty 1 ((fr.map Int.ofNat).map tI))), (106, .int ((fr.map Int.ofNat).map tI).length), (107, .int p.1)])
      (fun p => ⟨o, (176, .box [.int a, .int k, .t (.sl (fr.map Int.ofNat).isEmpty 1 ((fr.map Int.ofNat).map tI))]) :: frEsO t p.2 (nT t) (mT t) ⟨List.replicate (nT t) (-1), b1, b2, [], op.set i ((fr.map Int.ofNat).map tI).length, List.replicate (mT t) 0, q⟩⟩)
      (fun p => fr.length - p.1) (0, W) ⟨Nat.zero_le _, by simp [hW]⟩ ⟨rfl, ?_⟩ ?_
    · show _ = (⟨o, (176, .box [.int a, .int k, .t (.sl (fr.map Int.ofNat).isEmpty 1 ((fr.map Int.ofNat).map tI))]) :: frEsO t W (nT t) (mT t) ⟨List.replicate (nT t) (-1), b1, b2, [], op.set i ((fr.map Int.ofNat).map tI).length, List.replicate (mT t) 0, q⟩⟩ : St)
      simp only [frEsO, rowI, ← setI]
      rfl
    rintro ⟨j, W⟩ ⟨hj0, hWj⟩
    simp only at hj0 hWj
    refine And.intro (fun h2 => ?_) fun h2 => ?_
    · have hj : j < fr.length := by have := of_decide_eq_true h2; rw [hfm] at this; omega
      have hgj : ((fr.map Int.ofNat).map tI)[((j : Int)).toNat]? = some (tI (fr[j] : Nat)) := by rw [Int.toNat_natCast, List.getElem?_map, List.getElem?_map, List.getElem?_eq_getElem hj]; rfl
      refine And.intro (by omega) (Exists.intro _ (And.intro hgj ?_))
      have hkj := hks j hj
      have hnotin : fr[j] ∉ fr.take j := fun hm => by
        obtain ⟨q, hq, he⟩ := List.mem_take_iff_getElem.1 hm
        exact List.pairwise_iff_getElem.1 R.nd q j (by omega) hj (by omega) he
      have hcur : W[0 + ((fr[j] : Nat) : Int).toNat]? = some (wR (waitsOf (epOf t s) i fr[j])) := by
        rw [Nat.zero_add, Int.toNat_natCast, hWj, gridF_get hkj, if_neg hnotin]
      refine And.intro (by omega) (And.intro (by omega) (Exists.intro _ (And.intro hcur ?_)))
      generalize hwl : waitsOf (epOf t s) i fr[j] = wl
      have hwn : W.set fr[j] (wR (wl ++ [i])) = gridF (nT t) (fun k => if k ∈ fr.take (j + 1) then waitsOf (epOf t s) i k ++ [i] else waitsOf (epOf t s) i k) := by
        rw [hWj, gridF_set hkj]
        unfold gridF
        refine List.map_congr_left fun q _ => ?_
        congr 1
        rw [List.take_add_one, List.getElem?_eq_getElem hj]
        simp only [Option.toList_some, List.mem_append, List.mem_singleton]
        by_cases hq : q = fr[j]
        · subst hq; simp [hwl]
        · simp [hq]
      have hwll : wl.length ≤ i := by
        rw [← hwl]; unfold waitsOf
        exact Nat.le_trans (List.length_filter_le _ _) (by simp)
      have hWl : W.length = nT t := by rw [hWj]; simp [gridF]
      have fin : ∀ g : GR, g = wR (wl ++ [i]) → W.set (0 + ((fr[j] : Nat) : Int).toNat) g = gridF (nT t) (fun k => if k ∈ fr.take (j + 1) then waitsOf (epOf t s) i k ++ [i] else waitsOf (epOf t s) i k) := fun g hg => by rw [Nat.zero_add, Int.toNat_natCast, hg, hwn]
      cases wl with
      | nil =>
        refine And.intro (Nat.le_refl 1) (And.intro (Nat.le_of_ble_eq_true rfl) (And.intro (Nat.le_of_ble_eq_true rfl) ?_))
        refine And.intro (by omega) (And.intro (by omega) (And.intro rfl (And.intro (by rw [hWl, Nat.zero_add, Int.toNat_natCast]; exact hkj) ?_)))
        refine And.intro (by show (-9223372036854775808 : Int) ≤ (j : Int) + 1; omega) (And.intro (by show (j : Int) + 1 ≤ 9223372036854775807; omega) ?_)
        exact Exists.intro (j + 1, W.set (0 + ((fr[j] : Nat) : Int).toNat) (.row [tI i])) (And.intro (by show fr.length - (j + 1) < fr.length - j; omega) (And.intro ⟨hj, fin _ rfl⟩ (And.intro rfl rfl)))
      | cons y l =>
        refine And.intro (Nat.le_refl 1) (Exists.intro _ (And.intro (hcur.trans (by rw [hwl]; rfl)) (And.intro rfl ?_)))
        have hl9 : ∀ X : List T, (((y :: l).map fun z : Nat => tI (z : Int)) ++ [X]).length ≤ 1000000 := fun X => by rw [List.length_append, List.length_map]; simp only [List.length_singleton]; omega
        refine And.intro (Nat.le_trans (Nat.mul_le_mul_right _ (hl9 _)) (Nat.le_of_ble_eq_true rfl)) (And.intro (Nat.le_trans (hl9 _) (Nat.le_of_ble_eq_true rfl)) ?_)
        refine And.intro (by omega) (And.intro (by omega) (And.intro rfl ?_))
        refine And.intro (by show 0 + ((fr[j] : Nat) : Int).toNat < (W.set _ _).length; rw [List.length_set, hWl, Nat.zero_add, Int.toNat_natCast]; exact hkj) ?_
        refine And.intro (by show (-9223372036854775808 : Int) ≤ (j : Int) + 1; omega) (And.intro (by show (j : Int) + 1 ≤ 9223372036854775807; omega) ?_)
        refine Exists.intro (j + 1, (W.set (0 + ((fr[j] : Nat) : Int).toNat) .out).set (0 + ((fr[j] : Nat) : Int).toNat) (.row (((y :: l).map fun z : Nat => tI (z : Int)) ++ [tI i]))) (And.intro (by show fr.length - (j + 1) < fr.length - j; omega) (And.intro ⟨hj, ?_⟩ (And.intro rfl rfl)))
        show (W.set _ _).set _ _ = _
        rw [List.set_set]
        refine fin _ ?_
        show GR.row _ = GR.row (((y :: l) ++ [i]).map fun z : Nat => tI (z : Int))
        rw [List.map_append]; rfl
    have hje : j = fr.length := by have := of_decide_eq_false h2; rw [hfm] at this; omega
    have hWe : W = gridF (nT t) (waitsOf (epOf t s) (i + 1)) := by
      rw [hWj, hje, List.take_length]
      unfold gridF
      refine List.map_congr_left fun q _ => ?_
      congr 1
      exact (waits_succ R.re q).symm
    clear h2 hj0 hWj
    have hop1 : i < (op.set i (((fr.map Int.ofNat).map tI).length : Int)).length := by rw [List.length_set]; exact hiop
    refine And.intro (by omega) (And.intro (by show (i : Int) < (mT t : Nat); omega) (Exists.intro _ (And.intro (getI hop1) ?_)))
    have hev : ev (op.set i (((fr.map Int.ofNat).map tI).length : Int)) i = (fr.length : Int) := by rw [ev_set hiop, if_pos rfl, hfm]
    have hlk : lack (List.replicate (nT t) (-1)) fr = fr.length := by
      unfold lack
      rw [List.countP_eq_length]
      intro z _
      rw [ev_rep]; rfl
    have hcb : comb add (List.replicate (nT t) (-1)) fr = 0 := by
      exact ih' add fr (nT t)
    have hsm0 : ev (List.replicate (mT t) (0 : Int)) i = 0 := by
      unfold ev
      rw [List.getD_eq_getElem?_getD, List.getElem?_replicate]
      rw [if_pos (show i < mT t by omega)]; rfl
    have hset0 : (List.replicate (mT t) (0 : Int)).set i 0 = List.replicate (mT t) 0 := by
      refine List.ext_getElem? fun z => ?_
      rw [List.getElem?_set]
      by_cases hz : i = z
      · subst hz; simp only [if_true, List.length_replicate, List.getElem?_replicate]
      · rw [if_neg hz]
    have hcnt : (op.set i (((fr.map Int.ofNat).map tI).length : Int)).countP (fun x => decide (0 < x)) ≤ op.countP (fun x => decide (0 < x)) + (if fr.length = 0 then 0 else 1) := by
      rw [hfm]
      refine Nat.le_trans (countP_set_le _ _ _ _) ?_
      by_cases hz : fr.length = 0
      · rw [hz]; simp
      · rw [if_neg hz]; split <;> omega
    have hlen2 : LenD (nT t) ⟨List.replicate (nT t) (-1), b1, b2, [], op.set i (((fr.map Int.ofNat).map tI).length : Int), List.replicate (mT t) 0, q⟩ := ⟨by simp, by have := hinv.lby; simp only at this; rw [this]; exact hnn.symm, by have := hinv.lb; simp only at this; rw [this]; exact hnn.symm⟩
    refine And.intro (fun h3 => ?_) fun h3 => ?_
    · have h3' : ev (op.set i (((fr.map Int.ofNat).map tI).length : Int)) i = 0 := eq_of_beq h3
      have hz : fr.length = 0 := by rw [hev] at h3'; omega
      have hf := fire_inv (e := List.replicate (nT t) (-1)) (epOf_ok ht s) hinv R.re (by rw [hlk]; exact hz) (fun _ _ => rfl) (by have := R.cost.1; show 0 ≤ min farI (comb add _ fr + x.cost); rw [hcb]; unfold farI; omega)
      have hft := hf
      unfold rval at hf
      simp only [hcb, upd, hset0] at hf
      have hspec := f52_spec t (rulesX t).isEmpty (rulesX t) (nT t) (mT t) ⟨List.replicate (nT t) (-1), b1, b2, [], op.set i (((fr.map Int.ofNat).map tI).length : Int), List.replicate (mT t) 0, q⟩ i a k (fr.map Int.ofNat) x hlen2 (by simp) R.rx R.act (by omega) (by rw [hnn]; exact R.to) (by have : q.length ≤ mu ⟨List.replicate (nT t) (-1), b1, b2, [], op, List.replicate (mT t) 0, q⟩ := Nat.le_add_right _ _; show q.length < 1000000; omega)
        (by show 0 ≤ ev (List.replicate (mT t) (0 : Int)) i ∧ ev (List.replicate (mT t) (0 : Int)) i ≤ farI; rw [hsm0]; unfold farI; omega) R.cost
      have hmuo := offer_mu ⟨List.replicate (nT t) (-1), b1, b2, [], op.set i (((fr.map Int.ofNat).map tI).length : Int), List.replicate (mT t) 0, q⟩ k (min farI (0 + x.cost)) (i : Int)
      simp only [hsm0] at hspec
      obtain ⟨c1, c2, q', he⟩ := offer_form (List.replicate (nT t) (-1)) b1 b2 [] (op.set i (((fr.map Int.ofNat).map tI).length : Int)) (List.replicate (mT t) 0) q k (min farI (0 + x.cost)) i
      rw [he] at hspec hmuo
      have hop0 : op.set i (((fr.map Int.ofNat).map tI).length : Int) = op.set i 0 := by rw [hfm, hz]; rfl
      rw [hop0] at he
      rw [he] at hf
      have hbl : b2.length = nT t := by have := hinv.lb; simp only at this; rw [this]; exact hnn.symm
      have htg2 : ∀ z, z < 2 * t.facts.length → holdsL s z = true → Tgt (offer ⟨List.replicate (nT t) (-1), b1, b2, [], op.set i 0, List.replicate (mT t) 0, q⟩ k (min farI (0 + x.cost)) (i : Int)) z 0 := fun z hz1 hz2 =>
        offer_tgt (by show k < b2.length; rw [hbl, hnn]; exact R.to) (by have := R.cost.1; unfold farI; omega) (htg z hz1 hz2)
      rw [he] at htg2
      have hmu2 : mu ⟨List.replicate (nT t) (-1), c1, c2, [], op.set i 0, List.replicate (mT t) 0, q'⟩ ≤ 200 + (i + 1) := by
        have e1 : mu ⟨List.replicate (nT t) (-1), b1, b2, [], op.set i (((fr.map Int.ofNat).map tI).length : Int), List.replicate (mT t) 0, q⟩ ≤ mu ⟨List.replicate (nT t) (-1), b1, b2, [], op, List.replicate (mT t) 0, q⟩ := by
          rw [if_pos hz] at hcnt
          unfold mu; simp only; omega
        rw [hop0] at hmuo e1
        omega
      have hinv2 : Inv (epOf t s) add 0 (fun _ => List.replicate (nT t) (-1)) (fun j => j < i + 1) ⟨List.replicate (nT t) (-1), c1, c2, [], op.set i 0, List.replicate (mT t) 0, q'⟩ := hf.vs fun j r hj hp => ⟨by omega, by split <;> rfl⟩
      refine ModH.mk ρF hspec rfl rfl (by repeat (first | exact trivial | refine And.intro rfl ?_)) ?_
      rintro _ _ ⟨rfl, rfl⟩
      refine And.intro rfl ?_
      refine And.intro (by show (-9223372036854775808 : Int) ≤ (i : Int) + 1; omega) (And.intro (by show (i : Int) + 1 ≤ 9223372036854775807; omega) ?_)
      refine Exists.intro (i + 1, c1, c2, op.set i (((fr.map Int.ofNat).map tI).length : Int), q', [], W) (And.intro (by show (rulesX t).length - (i + 1) < (rulesX t).length - i; omega) (And.intro ⟨hi, ?_, ?_, ?_, hWe⟩ (And.intro rfl rfl)))
      · simp only [hop0]; exact hinv2
      · simp only [hop0]; exact htg2
      · simp only [hop0]; exact hmu2
    · have h3' : ¬ ev (op.set i (((fr.map Int.ofNat).map tI).length : Int)) i = 0 := by
        intro he
        have : (ev (op.set i (((fr.map Int.ofNat).map tI).length : Int)) i == 0) = false := h3
        rw [he] at this; cases this
      have hz : fr.length ≠ 0 := by rw [hev] at h3'; omega
      have hf := upd_inv (e := List.replicate (nT t) (-1)) hinv R.re (by rw [hlk]; exact hz)
      simp only [hcb, upd, hset0, hlk] at hf
      have hinv2 : Inv (epOf t s) add 0 (fun _ => List.replicate (nT t) (-1)) (fun j => j < i + 1) ⟨List.replicate (nT t) (-1), b1, b2, [], op.set i (((fr.map Int.ofNat).map tI).length : Int), List.replicate (mT t) 0, q⟩ := by
        rw [hfm]; exact hf.vs fun j r hj hp => ⟨by omega, by split <;> rfl⟩
      refine And.intro (by show (-9223372036854775808 : Int) ≤ (i : Int) + 1; omega) (And.intro (by show (i : Int) + 1 ≤ 9223372036854775807; omega) ?_)
      refine Exists.intro (i + 1, b1, b2, op.set i (((fr.map Int.ofNat).map tI).length : Int), q, o, W) (And.intro (by show (rulesX t).length - (i + 1) < (rulesX t).length - i; omega) (And.intro ⟨hi, hinv2, htg, ?_, hWe⟩ (And.intro rfl rfl)))
      rw [if_neg hz] at hcnt
      unfold mu at hmu ⊢
      simp only at hmu ⊢
      omega
  have hie : i = (rulesX t).length := by have := of_decide_eq_false h1; rw [List.length_map] at this; omega
  have hst : Start t s add ⟨List.replicate (nT t) (-1), b1, b2, [], op, List.replicate (mT t) 0, q⟩ := ⟨hinv.vs fun j r hj _ => ⟨by
      have := (List.getElem?_eq_some_iff.1 hj).1
      have e : (epOf t s).rules.length = (rulesX t).length := by simp [epOf]
      rw [e] at this; omega, rfl⟩, htg, by have := hi0; have e2 : (rulesX t).length ≤ 100000 := by omega
                                           omega⟩
  rw [hie] at hW
  subst hW
  exact f28_main t s add ht o _ hst

end Go.Fw

/- What the program's functions do: estimates, whole. -/
namespace Go.Fw
open Go Go.Proofs Heap
set_option maxRecDepth 10000

theorem f28o_spec (t : Task) (n1 : Bool) (s : List Int) (add : Bool) (ht : isB t = true) (hs : risingB s t.facts.length = true) (out : List Fr) : SpecP Try.prog 28 [.task t, .ints n1 s, .bool add] out (PostE t s add) := by
  refine spec_walkH cxm_ok mH_ok kp28 od28 (fn := Try.f28) (by kernel_rfl) rfl (by kernel_rfl) rfl (by unfold FnOK; kernel_rfl) fun hok => ?_
  have K := task_ok ht
  have hN := K.facts
  have hfl : (t.facts.map tS).length = t.facts.length := List.length_map ..
  refine And.intro (by omega) (And.intro (by omega) ?_)
  refine SpecP.mono (f39_spec t ht []) ?_
  rintro _ _ ⟨rfl, rfl⟩
  have hb : 2 * ((t.facts.map tS).length : Int) * ((8 : Nat) : Int) ≤ 140737488355328 := by omega
  have rest : rest28 4 [(1, .ints n1 s), (2, .bool add), (3, .ptr (.cur 24) 0), (6, .ptr (.cur 48) 0), (7, .int (2 * ((t.facts.map tS).length : Int))), (8, .ptr (.cur 64) 0), (9, .ptr (.cur 72) 0)]
    ⟨out, [(24, .box (cellsTask t)), (48, .box [.t (.sl true 0 []), .t (.sl true 0 []), .t (.sl true 0 [])]), (64, .box [.t (.sl (rulesX t).isEmpty 3 ((rulesX t).map tRY))]), (72, .box [.osl (.cur 280) 1 0 (2 * (t.facts.map tS).length), .osl (.cur 296) 1 0 (2 * (t.facts.map tS).length), .t (.sl true 0 [])]), (280, .row 3 1 (List.replicate (2 * (t.facts.map tS).length) (tI 0))), (296, .row 3 1 (List.replicate (2 * (t.facts.map tS).length) (tI 0)))]⟩
    (retW cxm Try.f28.results.toList (PostE t s add)) := by
    refine CutX.mk ?_
    have hrl := rulesUp_len K t.acts.length
    have hrl2 : ((rulesX t).map tRY).length ≤ 100000 := by rw [List.length_map]; unfold rulesX; have := K.acts; omega
    generalize hm : ((rulesX t).map tRY).length = m at hrl2
    have hb5 : (m : Int) * ((8 : Nat) : Int) ≤ 140737488355328 := by omega
    have hb4 : 2 * ((t.facts.map tS).length : Int) * ((24 : Nat) : Int) ≤ 140737488355328 := by omega
    refine And.intro rfl (And.intro (by omega) (And.intro hb4 (And.intro (by omega) ?_)))
    have rest : rest28 6 [(1, .ints n1 s), (2, .bool add), (3, .ptr (.cur 24) 0), (6, .ptr (.cur 48) 0), (7, .int (2 * ((t.facts.map tS).length : Int))), (8, .ptr (.cur 64) 0), (9, .ptr (.cur 72) 0), (10, .osl (.cur 320) 1 0 (2 * (t.facts.map tS).length)), (11, .osl (.cur 344) 1 0 ((rulesX t).map tRY).length), (12, .ptr (.cur 96) 0)]
      ⟨out, [(24, .box (cellsTask t)), (48, .box [.t (.sl true 0 []), .t (.sl true 0 []), .t (.sl true 0 [])]), (64, .box [.t (.sl (rulesX t).isEmpty 3 ((rulesX t).map tRY))]), (72, .box [.osl (.cur 280) 1 0 (2 * (t.facts.map tS).length), .osl (.cur 296) 1 0 (2 * (t.facts.map tS).length), .t (.sl true 0 [])]), (280, .row 3 1 (List.replicate (2 * (t.facts.map tS).length) (tI 0))), (296, .row 3 1 (List.replicate (2 * (t.facts.map tS).length) (tI 0))),
        (320, .grid 23 3 1 (List.replicate (2 * (t.facts.map tS).length) .nil)), (344, .row 3 1 (List.replicate ((rulesX t).map tRY).length (tI 0))), (96, .box [.osl (.cur 368) 1 0 ((rulesX t).map tRY).length]), (368, .row 3 1 (List.replicate ((rulesX t).map tRY).length (tI 0)))]⟩
      (retW cxm Try.f28.results.toList (PostE t s add)) := by
      refine CutX.mk ?_
      clear hm
      have hfn : (t.facts.map tS).length ≤ 200 := by omega
      refine And.intro rfl (And.intro (by omega) (And.intro hb (And.intro (by omega) ?_)))
      refine LoopX.mk Nat (fun i => i ≤ nT t) (fun i => envEst t n1 s add ++ [(53, .int (2 * ((t.facts.map tS).length : Int))), (54, .int i)])
        (fun i => ⟨out, frEst t (List.replicate (nT t) .nil) (nT t) (mT t) ⟨fillM (nT t) i, fillM (nT t) i, fillM (nT t) i, [], List.replicate (mT t) 0, List.replicate (mT t) 0, []⟩⟩) (fun i => nT t - i) 0 (Nat.zero_le _) ⟨rfl, ?_⟩ ?_
      · show _ = (⟨out, frEst t (List.replicate (nT t) .nil) (nT t) (mT t) ⟨fillM (nT t) 0, fillM (nT t) 0, fillM (nT t) 0, [], List.replicate (mT t) 0, List.replicate (mT t) 0, []⟩⟩ : St)
        have e0 : fillM (nT t) 0 = List.replicate (nT t) 0 := by simp [fillM]
        simp only [e0, frEst, rowI, List.map_replicate]
        rfl
      intro i hi
      refine And.intro (fun h1 => ?_) fun h1 => ?_
      · have h1' : (i : Int) < 2 * ((t.facts.map tS).length : Int) := of_decide_eq_true h1
        have hin : i < nT t := by show i < 2 * (t.facts.map tS).length; omega
        have hif : i < (fillM (nT t) i).length := by rw [fillM_len hi]; exact hin
        have hb7 : (i : Int) < (nT t : Nat) := by omega
        have es7 : (fillM (nT t) (i + 1)).map tI = ((fillM (nT t) i).map tI).set (0 + ((i : Nat) : Int).toNat) (tI (-1)) := by rw [setI, fillM_set hin]
        repeat first
          | refine And.intro rfl ?_
          | refine And.intro (Nat.le_refl 1) ?_
          | refine And.intro (by omega) ?_
          | refine And.intro hb7 ?_
          | refine Exists.intro _ (And.intro (getI hif) ?_)
        refine Exists.intro (i + 1) (And.intro (by show nT t - (i + 1) < nT t - i; omega) (And.intro hin ⟨rfl, ?_⟩))
        show _ = (⟨out, frEst t (List.replicate (nT t) .nil) (nT t) (mT t) ⟨fillM (nT t) (i + 1), fillM (nT t) (i + 1), fillM (nT t) (i + 1), [], List.replicate (mT t) 0, List.replicate (mT t) 0, []⟩⟩ : St)
        simp only [frEst, rowI, es7]
        rfl
      · have h1' : ¬ (i : Int) < 2 * ((t.facts.map tS).length : Int) := of_decide_eq_false h1
        have hie : i = nT t := by have hi' : i ≤ 2 * (t.facts.map tS).length := hi; show i = 2 * (t.facts.map tS).length; omega
        have hd0 : (⟨fillM (nT t) i, fillM (nT t) i, fillM (nT t) i, [], List.replicate (mT t) 0, List.replicate (mT t) 0, []⟩ : Dj) = dj0 (nT t) (mT t) := by rw [hie, fillM_end]; rfl
        have hfin := f28_facts t n1 s add ht hs out
        rw [← hd0] at hfin
        exact hfin
    have hb5 : (((rulesX t).map tRY).length : Int) * ((8 : Nat) : Int) ≤ 140737488355328 := by omega
    repeat' (first | refine And.intro rfl ?_ | refine And.intro (by omega) ?_ | refine And.intro hb5 ?_ | refine And.intro ?_ ?_ | exact rest)
  refine And.intro ?_ (And.intro ?_ ?_)
  · refine And.intro rfl (And.intro (by omega) (And.intro hb (And.intro (by omega) ?_)))
    refine And.intro rfl ?_
    refine And.intro ?_ ?_
    · refine And.intro rfl (And.intro (by omega) (And.intro hb (And.intro (by omega) ?_)))
      refine And.intro rfl ?_
      exact rest
    · refine And.intro rfl (And.intro rfl ?_)
      refine And.intro rfl (And.intro (by omega) (And.intro hb (And.intro (by omega) ?_)))
      exact rest
  · refine And.intro rfl (And.intro (by omega) (And.intro hb (And.intro (by omega) ?_)))
    refine And.intro rfl ?_
    refine And.intro ?_ ?_
    · refine And.intro rfl (And.intro (by omega) (And.intro hb (And.intro (by omega) ?_)))
      refine And.intro rfl ?_
      exact rest
    · refine And.intro rfl (And.intro rfl ?_)
      refine And.intro rfl (And.intro (by omega) (And.intro hb (And.intro (by omega) ?_)))
      exact rest
  · refine And.intro rfl (And.intro rfl ?_)
    refine And.intro ?_ ?_
    · refine And.intro rfl (And.intro (by omega) (And.intro hb (And.intro (by omega) ?_)))
      refine And.intro rfl ?_
      refine And.intro rfl (And.intro (by omega) (And.intro hb (And.intro (by omega) ?_)))
      exact rest
    · refine And.intro rfl (And.intro (by omega) (And.intro hb (And.intro (by omega) ?_)))
      refine And.intro rfl ?_
      refine And.intro rfl (And.intro (by omega) (And.intro hb (And.intro (by omega) ?_)))
      exact rest

/-- Estimates, told as closed data. -/
theorem f28_spec (t : Task) (n1 : Bool) (s : List Int) (add : Bool) (ht : isB t = true) (hs : risingB s t.facts.length = true) (out : List Fr) : SpecP Try.prog 28 [.task t, .ints n1 s, .bool add] out fun r ro =>
    ∃ d, EstOK t s add d ∧ r = .agg [.ints false d.v, .ints false d.by_, .ints d.order.isEmpty d.order] ∧ ro = [] :=
  (f28o_spec t n1 s add ht hs out).close fun r ro ⟨d, hd, h1, h2⟩ => by
    have hl : (d.v.map tI).length = nT t := by rw [List.length_map, hd.est.len]; show 2 * t.facts.length = 2 * (t.facts.map tS).length; rw [List.length_map]
    have hl2 : (d.by_.map tI).length = nT t := by rw [List.length_map, hd.lby]; show 2 * t.facts.length = 2 * (t.facts.map tS).length; rw [List.length_map]
    refine ⟨_, ?_, d, hd, rfl, rfl⟩
    rw [h1]
    refine .agg _ _ rfl fun i x y hx hy => ?_
    match i with
    | 0 =>
      simp only [List.getElem?_cons_zero, Option.some.injEq] at hx hy
      subst hx; subst hy
      have := ClsV.row (ro := ro) 280 3 1 0 (nT t) (d.v.map tI) (by rw [h2, look_cons, if_pos rfl]) (by omega)
      rw [← hl, ← take_all] at this; rw [← hl]; exact this
    | 1 =>
      simp only [List.getElem?_cons_zero, List.getElem?_cons_succ, Option.some.injEq] at hx hy
      subst hx; subst hy
      have := ClsV.row (ro := ro) 296 3 1 0 (nT t) (d.by_.map tI) (by rw [h2, look_cons, if_neg (by decide), look_cons, if_pos rfl]) (by omega)
      rw [← hl2, ← take_all] at this; rw [← hl2]; exact this
    | 2 =>
      simp only [List.getElem?_cons_zero, List.getElem?_cons_succ, Option.some.injEq] at hx hy
      subst hx; subst hy
      have := acc_cls (s := 1248) (e := 3) (sz := 1) (es := d.order.map tI) (ro := ro) fun x r he => by rw [h2, look_cons, if_neg (by decide), look_cons, if_neg (by decide), he]; show look [(1248, Ob.row 3 1 (x :: r))] 1248 = _; rw [look_cons, if_pos rfl]
      rw [show d.order.isEmpty = (d.order.map tI).isEmpty by cases d.order <;> rfl]
      exact this
    | i + 3 => simp at hx

end Go.Fw

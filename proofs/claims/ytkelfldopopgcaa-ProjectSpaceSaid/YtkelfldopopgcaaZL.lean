/- Projections, to their end; the queue of the search. -/
import Derived.Test.YtkelfldopopgcaaZK
import Derived.Test.YtkelfldopopgcaaZG

/- What the program's functions do: the projection of a task, whole. -/
namespace Go.Fw
open Go Go.Proofs
set_option maxRecDepth 10000

theorem rising_nodup {l : List Int} {n : Int} (h : risingB l n = true) : l.Nodup := (rising_inc h).imp fun h => Int.ne_of_lt h
theorem f34_fin (t : Task) (p : List Int) (out : List Fr) :
    rest34 5 [(4, .ptr (.cur 32) 0), (6, .ptr (.cur 48) 0)] ⟨out, [(32, zeroP), (48, boxP t p (p.map (factS t)) t.acts)] ++ accO 328 9 1 ((p.map (factS t)).map tS) ++ accO 768 37 4 (t.acts.map (tActP p))⟩ (retW cx Try.f34.results.toList (resP t p)) := by
  refine CutX.mk ?_
  simp only [boxP]
  generalize hF : p.map (factS t) = F
  generalize hA : t.acts.map (tActP p) = A
  cases F <;> cases A
  all_goals
    refine Exists.intro [328, 768] ?_
    exact ⟨by rw [hF, hA]; rfl, by rw [hF, hA]; rfl⟩

theorem f34o_spec (t : Task) (n1 : Bool) (p : List Int) (ht : isB t = true) (hp : risingB p t.facts.length = true) (out : List Fr) : SpecP Try.prog 34 [.task t, .ints n1 p] out (resP t p) := by
  have TK := task_ok ht
  have TL := task_l ht
  have hin := rising_in hp
  have hpl := rising_len hp (by have := TK.facts; omega)
  refine spec_walkH cx_ok mH_ok kq34 oq34 (fn := Try.f34) (by kernel_rfl) rfl (by kernel_rfl) rfl (by unfold FnOK; kernel_rfl) fun hok => ?_
  have rest := f34_facts t n1 p hin hpl out _ (f34_acts t p TK TL out _ _ (f34_fin t p out))
  refine SpecP.mono (f36_spec n1 p (rising_nodup hp) []) ?_
  rintro _ _ ⟨rfl, rfl⟩
  repeat' first
    | exact rest
    | refine And.intro rfl ?_
    | (refine SpecP.mono (f35_spec t.ni p t.init _ 137000459 rfl TL.init _) ?_; rintro _ _ ⟨rfl, rfl⟩)
    | (refine SpecP.mono (f62_spec t.gn p t.goal _ 137000459 rfl TL.goal _) ?_; rintro _ _ ⟨rfl, rfl⟩)
    | refine And.intro ?_ ?_

theorem look_acc {σ e sz : Nat} {es : List (List T)} {R : Fr} {k : Nat} (h : σ ≠ k) : look (accO σ e sz es ++ R) k = look R k := by
  cases es with
  | nil => rfl
  | cons x r => exact (look_cons ..).trans (if_neg (fun he => h he))
theorem un_E0 (E : List Eff) : (T.sl E.isEmpty 3 (E.map tEff)).un = (tE0 E).un := by cases E <;> rfl
theorem un_acts {p : List Int} : ∀ l : List Actn, T.un.unEs ((l.map (projA p)).map tAct) = T.un.unEs (l.map (tActP p))
  | [] => rfl
  | a :: r => by
    have ih := un_acts (p := p) r
    simp only [List.map_cons, T.un.unEs, ih]
    congr 1
    simp only [tAct, tActP, projA, T.un.unEl, un_E0]
theorem f34_spec (t : Task) (n1 : Bool) (p : List Int) (ht : isB t = true) (hp : risingB p t.facts.length = true) (out : List Fr) : SpecP Try.prog 34 [.task t, .ints n1 p] out fun r ro => r = .task (projT t p) ∧ ro = [] :=
  (f34o_spec t n1 p ht hp out).close fun r ro ⟨h1, h2⟩ => by
    refine ⟨_, ?_, rfl, rfl⟩
    rw [h1]
    have a1 := acc_cls (s := 328) (e := 9) (sz := 1) (es := (p.map (factS t)).map tS) (ro := ro) fun x r he => by rw [h2, he]; exact look_cons .. |>.trans (if_pos rfl)
    have a2 := acc_cls (s := 768) (e := 37) (sz := 4) (es := t.acts.map (tActP p)) (ro := ro) fun x r he => by rw [h2, look_acc (by decide), he]; exact look_cons .. |>.trans (if_pos rfl)
    rw [show ((p.map (factS t)).map tS).isEmpty = p.isEmpty by cases p <;> rfl] at a1
    rw [show (t.acts.map (tActP p)).isEmpty = t.acts.isEmpty by cases t.acts <;> rfl] at a2
    refine .agg _ [.t (.sl p.isEmpty 1 ((p.map (factS t)).map tS)), .t (.sl (factsL p t.init).isEmpty 1 ((factsL p t.init).map tI)), .t (.sl (litsL p t.goal).isEmpty 2 ((litsL p t.goal).map tLit)), .t (.sl t.acts.isEmpty 4 ((t.acts.map (projA p)).map tAct))] rfl fun i x y hx hy => ?_
    match i with
    | 0 => simp at hx hy; subst hx hy; rw [List.map_map] at a1; exact a1
    | 1 => simp at hx hy; subst hx hy; exact .same _
    | 2 => simp at hx hy; subst hx hy; exact .same _
    | 3 =>
      simp only [List.getElem?_cons_succ, List.getElem?_cons_zero, Option.some.injEq] at hx hy; subst hx hy
      refine .trans _ _ _ a2 (.un _ _ ?_)
      cases t.acts with
      | nil => rfl
      | cons a r => simp only [List.isEmpty_cons, un_sl]; rw [un_acts (a :: r)]
    | i + 4 => simp at hx

end Go.Fw

/- What the program's functions do: the heap of items, its methods. -/
namespace Go.Fw
open Go Go.Proofs Heap
set_option maxRecDepth 10000

def tIt (x : Heap.Item) : List T := [.v (.int .i64 x.1), .v (.int .i64 x.2)]
abbrev rowQ (l : List Heap.Item) : Ob := .row 97 2 (l.map tIt)
abbrev boxQ (n : Nat) : Ob := .box [.osl (.cur 3) 2 0 n]

theorem f57_spec (l : List Heap.Item) (n : Nat) : SpecM Try.prog 57 [.osl (.cur 3) 2 0 n] [(3, rowQ l)] [(3, 2)] fun r ro => r = .int n ∧ ro = [(3, rowQ l)] := by
  refine specM_walk cxm_ok mH_ok [] [] (fn := Try.f57) (by kernel_rfl) rfl (by kernel_rfl) rfl (by unfold FnOK; kernel_rfl) rfl fun hok => ?_
  exact ⟨rfl, [3], rfl, rfl⟩

def oq126 : Od := [(1, [(0, .pure), (1, .pure), (2, .pure), (3, .pure), (4, .pure), (5, .pure), (6, .pure), (7, .pure), (8, .pure), (9, .pure), (10, .pure), (11, .pure)])]
theorem at_map {l : List Heap.Item} {i : Nat} (h : i < l.length) : (l.map tIt)[i]? = some (tIt (at_ l i)) := by rw [List.getElem?_map, at_get h]; rfl
theorem f126_spec (l : List Heap.Item) (n i j : Nat) (hi : i < n) (hj : j < n) (hn : n ≤ l.length) : SpecM Try.prog 126 [.osl (.cur 3) 2 0 n, .int i, .int j] [(3, rowQ l)] [(3, 2)] fun r ro => r = .bool (decide (vl l i < vl l j)) ∧ ro = [(3, rowQ l)] := by
  refine specM_walk cxm_ok mH_ok [] oq126 (fn := Try.f126) (by kernel_rfl) rfl (by kernel_rfl) rfl (by unfold FnOK; kernel_rfl) rfl fun hok => ?_
  refine And.intro (by omega) (And.intro (by omega) ?_)
  refine Exists.intro _ (And.intro (by rw [Nat.zero_add]; exact at_map (by omega)) ?_)
  refine And.intro (by omega) (And.intro (by omega) ?_)
  refine Exists.intro _ (And.intro (by rw [Nat.zero_add]; exact at_map (by omega)) ?_)
  refine And.intro (fun h => ?_) fun h => ?_
  · exact ⟨rfl, [3], congrArg (fun b => LV.t (.v (.bool b))) h.symm, rfl⟩
  · exact ⟨rfl, [3], congrArg (fun b => LV.t (.v (.bool b))) h.symm, rfl⟩

theorem set_map {l : List Heap.Item} {i : Nat} {x : Heap.Item} : (l.map tIt).set i (tIt x) = (l.set i x).map tIt := by rw [List.map_set]
def oq129 : Od := [(0, [(0, .tree (.pure 0 (.pure 1 (.pure 2 (.pure 3 (.pure 4 (.pure 5 (.pure 6 (.pure 7 (.pure 8 (.pure 9 (.pure 10 (.pure 11 (.pure 12 (.last 13 (.pure 14 (.last 15 .done [])) [2, 3])))))))))))))))])]
theorem f129_spec (l : List Heap.Item) (n i j : Nat) (hi : i < n) (hj : j < n) (hn : n ≤ l.length) : SpecM Try.prog 129 [.osl (.cur 3) 2 0 n, .int i, .int j] [(3, rowQ l)] [(3, 2)] fun r ro => r = .tup [] ∧ ro = [(3, rowQ (swapL l i j))] := by
  refine specM_walk cxm_ok mH_ok [] oq129 (fn := Try.f129) (by kernel_rfl) rfl (by kernel_rfl) rfl (by unfold FnOK; kernel_rfl) rfl fun hok => ?_
  refine And.intro (by omega) (And.intro (by omega) ?_)
  refine Exists.intro _ (And.intro (by rw [Nat.zero_add]; exact at_map (by omega)) ?_)
  refine And.intro (by exact Nat.le_refl _) ?_
  refine And.intro (by omega) (And.intro (by omega) ?_)
  refine Exists.intro _ (And.intro (by rw [Nat.zero_add]; exact at_map (by omega)) ?_)
  refine And.intro (by exact Nat.le_refl _) ?_
  refine And.intro (by omega) (And.intro (by omega) ?_)
  refine Exists.intro _ (And.intro (by rw [Nat.zero_add]; exact at_map (by omega)) (And.intro (Nat.le_refl _) ?_))
  refine And.intro rfl (And.intro rfl ?_)
  refine And.intro (by omega) (And.intro (by omega) ?_)
  refine Exists.intro (tIt (at_ (l.set i (at_ l j)) j)) (And.intro ?_ (And.intro (Nat.le_refl _) ?_))
  · show ((l.map tIt).set (0 + i) (tIt (at_ l j)))[0 + j]? = _
    rw [Nat.zero_add, Nat.zero_add, set_map]; exact at_map (by simp; omega)
  refine ⟨rfl, [3], rfl, ?_⟩
  show [(3, Ob.row 97 2 (((l.map tIt).set (0 + i) (tIt (at_ l j))).set (0 + j) (tIt (at_ l i))))] = _
  rw [Nat.zero_add, Nat.zero_add, set_map, set_map]; rfl

abbrev ifcQ (x : Heap.Item) : LV := .ifc 97 (.agg [.int x.1, .int x.2])
def oq128 : Od := [(2, [(0, .tree (.pure 0 (.pure 1 (.pure 2 (.pure 3 (.pure 4 (.pure 5 (.eff 6 (.last 7 (.pure 8 (.pure 9 (.last 10 .done []))) [0, 1])))))))))])]
theorem f128_spec (l : List Heap.Item) (n : Nat) (x : Heap.Item) (hn : n ≤ l.length) (hb : n ≤ 1000000000000) : SpecM Try.prog 128 [.ptr (.cur 1) 0, ifcQ x] [(1, boxQ n), (3, rowQ l)] [(1, 1)] fun r ro => r = .tup [] ∧ ro = [(1, boxQ (n + 1)), (3, rowQ (l.take n ++ [x]))] := by
  refine specM_walk cxm_ok mH_ok [] oq128 (fn := Try.f128) (by kernel_rfl) rfl (by kernel_rfl) rfl (by unfold FnOK; kernel_rfl) rfl fun hok => ?_
  refine And.intro (fun _ => ?_) fun h => Bool.noConfusion h
  have hlen : ((l.map tIt).take n ++ [tIt x]).length = n + 1 := by simp; omega
  refine And.intro (Nat.le_refl 1) (And.intro (by rw [List.length_map]; exact hn) (And.intro ?_ (And.intro ?_ ?_)))
  · show ((l.map tIt).take n ++ [tIt x]).length * 16 ≤ 140737488355328
    omega
  · show ((l.map tIt).take n ++ [tIt x]).length ≤ 140737488355328
    omega
  refine And.intro rfl (And.intro rfl ?_)
  refine ⟨rfl, [1, 3], rfl, ?_⟩
  show [(1, Ob.box [.osl (.cur 3) 2 0 ((l.map tIt).take n ++ [tIt x]).length]), (3, Ob.row 97 2 ((l.map tIt).take n ++ [tIt x]))] = _
  rw [hlen]
  simp only [rowQ, List.map_append, List.map_take, List.map_cons, List.map_nil]

theorem f127_spec (l : List Heap.Item) (n : Nat) (h0 : 0 < n) (hn : n ≤ l.length) (hb : n ≤ 1000000000000) : SpecM Try.prog 127 [.ptr (.cur 1) 0] [(1, boxQ n), (3, rowQ l)] [(1, 1)] fun r ro => r = ifcQ (at_ l (n - 1)) ∧ ro = [(1, boxQ (n - 1)), (3, rowQ l)] := by
  refine specM_walk cxm_ok mH_ok [] [] (fn := Try.f127) (by kernel_rfl) rfl (by kernel_rfl) rfl (by unfold FnOK; kernel_rfl) rfl fun hok => ?_
  refine And.intro (by omega) (And.intro (by omega) ?_)
  have e1 : ((n : Int) - 1).toNat = n - 1 := by omega
  refine And.intro (by omega) (And.intro (by omega) ?_)
  have e2 : (l.map tIt)[0 + ((n : Int) - 1).toNat]? = some (tIt (at_ l (n - 1))) := by rw [Nat.zero_add, e1]; exact at_map (by omega)
  refine Exists.intro _ (And.intro e2 ?_)
  refine And.intro (by exact Nat.le_refl _) ?_
  refine And.intro (Int.le_refl 0) (And.intro (by show (0 : Int) ≤ (n : Int) - 1; omega) (And.intro (by show (n : Int) - 1 ≤ n; omega) ?_))
  refine ⟨rfl, [1, 3], rfl, ?_⟩
  show [(1, Ob.box [.osl (.cur 3) 2 0 ((n : Int) - 1).toNat]), (3, rowQ l)] = _
  rw [e1]

end Go.Fw

/- What the program's functions do: the heap of items, up and down. -/
namespace Go.Fw
open Go Go.Proofs Heap
set_option maxRecDepth 10000

theorem m_len : MthV Try.prog 95 "Len" 57 99 := fun a w => by kernel_rfl
theorem m_less : MthV Try.prog 95 "Less" 126 99 := fun a w => by kernel_rfl
theorem m_swap : MthV Try.prog 95 "Swap" 129 99 := fun a w => by kernel_rfl
theorem m_pop : MthP Try.prog 95 "Pop" 127 := fun a w => by kernel_rfl
theorem m_push : MthP Try.prog 95 "Push" 128 := fun a w => by kernel_rfl

abbrev hQ : LV := .ifc 95 (.ptr (.cur 1) 0)
def kq76 : Kp := [(0, ([0, 1], [1, 3]))]
theorem f76_spec (l : List Heap.Item) (m j : Nat) (hm : l.length = m) (hj : j < m) (hb : m ≤ 1000000000000) : SpecM Try.prog 76 [hQ, .int j] [(1, boxQ m), (3, rowQ l)] [(1, 1)] fun r ro => r = .tup [] ∧ ro = [(1, boxQ m), (3, rowQ (upL l j))] := by
  subst hm
  refine specM_walk cxm_ok mH_ok kq76 [] (fn := Try.f76) (by kernel_rfl) rfl (by kernel_rfl) rfl (by unfold FnOK; kernel_rfl) rfl fun hok => ?_
  refine LoopX.mk (List Heap.Item × Nat) (fun p => p.1.length = l.length ∧ p.2 < l.length ∧ upL p.1 p.2 = upL l j) (fun p => [(0, hQ), (1, .int p.2), (1000001, .osl (.cur 1) 1 0 0)]) (fun p => ⟨[], [(1, boxQ l.length), (3, rowQ p.1)]⟩) (fun p => p.2) (l, j) ⟨rfl, hj, rfl⟩ ⟨rfl, rfl⟩ fun p hI => ?_
  obtain ⟨q, k⟩ := p
  obtain ⟨h1, h2, h3⟩ := hI
  simp only at h1 h2 h3
  refine And.intro (by omega) (And.intro (by omega) ?_)
  refine And.intro (by omega) ?_
  have e1 : ((k : Int) - 1).tdiv 2 = (((k - 1) / 2 : Nat) : Int) := by
    cases k with
    | zero => rfl
    | succ k =>
      rw [show ((k + 1 : Nat) : Int) - 1 = (k : Int) by omega, Nat.add_sub_cancel]
      rfl
  show arW cxm.wrap .i64 (((k : Int) - 1).tdiv 2) _
  rw [e1]
  refine And.intro (by omega) (And.intro (by omega) ?_)
  refine And.intro (fun h => ?_) fun h => ?_
  · have hk : k = 0 := by have := eq_of_beq h; simp only at this; omega
    refine ⟨rfl, [1, 3], rfl, ?_⟩
    subst hk
    rw [upL] at h3
    rw [← h3]; rfl
  · have hk : k ≠ 0 := by rintro rfl; simp at h
    refine InvH.val 126 99 m_less ?_
    refine ModH.mk [(3, 3)] (f126_spec q l.length k ((k - 1) / 2) h2 (by omega) (by omega)) rfl rfl ⟨rfl, trivial⟩ ?_
    rintro _ _ ⟨rfl, rfl⟩
    refine And.intro rfl ?_
    refine And.intro (fun h => ?_) fun h => ?_
    · have h := of_decide_eq_true h
      refine InvH.val 129 99 m_swap ?_
      refine ModH.mk [(3, 3)] (f129_spec q l.length ((k - 1) / 2) k (by omega) h2 (by omega)) rfl rfl ⟨rfl, trivial⟩ ?_
      rintro _ _ ⟨rfl, rfl⟩
      refine And.intro rfl ?_
      refine Exists.intro (swapL q ((k - 1) / 2) k, (k - 1) / 2) (And.intro (by show (k - 1) / 2 < k; omega) (And.intro ⟨by rw [swapL_length]; exact h1, by show (k - 1) / 2 < l.length; omega, ?_⟩ (And.intro rfl rfl)))
      rw [upL, dif_neg hk, if_pos h] at h3
      exact h3
    · have h := of_decide_eq_false h
      refine ⟨rfl, [1, 3], rfl, ?_⟩
      rw [upL, dif_neg hk, if_neg h] at h3
      rw [← h3]

def kq72 : Kp := [(2, ([0, 1, 2, 7], [1, 3]))]
theorem f72_spec (l : List Heap.Item) (m i0 n : Nat) (hm : l.length = m) (hi : i0 < m) (hn : n ≤ m) (hb : m ≤ 1000000000000) :
    SpecM Try.prog 72 [hQ, .int i0, .int n] [(1, boxQ m), (3, rowQ l)] [(1, 1)] fun r ro => (∃ b, r = .bool b) ∧ ro = [(1, boxQ m), (3, rowQ (downL l i0 n))] := by
  subst hm
  refine specM_walk cxm_ok mH_ok kq72 [] (fn := Try.f72) (by kernel_rfl) rfl (by kernel_rfl) rfl (by unfold FnOK; kernel_rfl) rfl fun hok => ?_
  refine LoopX.mk (List Heap.Item × Nat) (fun p => p.1.length = l.length ∧ p.2 < l.length ∧ downL p.1 p.2 n = downL l i0 n) (fun p => [(0, hQ), (1, .int i0), (2, .int n), (7, .int p.2), (1000001, .osl (.cur 1) 1 0 0)]) (fun p => ⟨[], [(1, boxQ l.length), (3, rowQ p.1)]⟩) (fun p => n - p.2) (l, i0) ⟨rfl, hi, rfl⟩ ⟨rfl, rfl⟩ fun p hI => ?_
  obtain ⟨q, k⟩ := p
  obtain ⟨h1, h2, h3⟩ := hI
  simp only at h1 h2 h3
  refine And.intro (by omega) (And.intro (by omega) ?_)
  refine And.intro (by omega) (And.intro (by omega) ?_)
  have e1 : (2 : Int) * (k : Int) + 1 = ((2 * k + 1 : Nat) : Int) := by omega
  rw [show (2 : Int) * ((q, k).2 : Int) + 1 = ((2 * k + 1 : Nat) : Int) from e1]
  refine And.intro (fun h => ?_) fun h => ?_
  · have h := of_decide_eq_true h
    rw [downL, dif_neg (by omega)] at h3
    refine And.intro (fun _ => ?_) fun _ => ?_ <;> exact ⟨rfl, [1, 3], ⟨_, rfl⟩, by rw [← h3]⟩
  have h4 := of_decide_eq_false h
  clear h
  refine And.intro (fun h => ?_) fun h => ?_
  · have h := of_decide_eq_true h; omega
  clear h
  refine And.intro (by omega) (And.intro (by omega) ?_)
  rw [show ((2 * k + 1 : Nat) : Int) + 1 = ((2 * k + 2 : Nat) : Int) by omega]
  refine And.intro (fun h => ?_) fun h => ?_
  · have h5 := of_decide_eq_true h
    clear h
    refine InvH.val 126 99 m_less ?_
    refine ModH.mk [(3, 3)] (f126_spec q l.length (2 * k + 2) (2 * k + 1) (by omega) (by omega) (by omega)) rfl rfl ⟨rfl, trivial⟩ ?_
    rintro _ _ ⟨rfl, rfl⟩
    refine And.intro rfl ?_
    refine And.intro (fun h => ?_) fun h => ?_
    · have h6 := of_decide_eq_true h
      clear h
      refine InvH.val 126 99 m_less ?_
      refine ModH.mk [(3, 3)] (f126_spec q l.length (2 * k + 2) k (by omega) h2 (by omega)) rfl rfl ⟨rfl, trivial⟩ ?_
      rintro _ _ ⟨rfl, rfl⟩
      refine And.intro rfl ?_
      have hc : kid q k n = 2 * k + 2 := by unfold kid; rw [if_pos ⟨by omega, h6⟩]
      refine And.intro (fun h => ?_) fun h => ?_
      · have h := of_decide_eq_true h
        refine InvH.val 129 99 m_swap ?_
        refine ModH.mk [(3, 3)] (f129_spec q l.length k (2 * k + 2) h2 (by omega) (by omega)) rfl rfl ⟨rfl, trivial⟩ ?_
        rintro _ _ ⟨rfl, rfl⟩
        refine And.intro rfl ?_
        refine Exists.intro (swapL q k (2 * k + 2), 2 * k + 2) (And.intro (by show n - (2 * k + 2) < n - k; omega) (And.intro ⟨by rw [swapL_length]; exact h1, by show 2 * k + 2 < l.length; omega, ?_⟩ (And.intro rfl rfl)))
        rw [downL, dif_pos (by omega), hc, if_pos h] at h3
        exact h3
      · have h := of_decide_eq_false h
        rw [downL, dif_pos (by omega), hc, if_neg h] at h3
        refine And.intro (fun _ => ?_) fun _ => ?_ <;> exact ⟨rfl, [1, 3], ⟨_, rfl⟩, by rw [← h3]⟩
    · have h6 := of_decide_eq_false h
      clear h
      refine InvH.val 126 99 m_less ?_
      refine ModH.mk [(3, 3)] (f126_spec q l.length (2 * k + 1) k (by omega) h2 (by omega)) rfl rfl ⟨rfl, trivial⟩ ?_
      rintro _ _ ⟨rfl, rfl⟩
      refine And.intro rfl ?_
      have hc : kid q k n = 2 * k + 1 := by unfold kid; rw [if_neg fun h => h6 h.2]
      refine And.intro (fun h => ?_) fun h => ?_
      · have h := of_decide_eq_true h
        refine InvH.val 129 99 m_swap ?_
        refine ModH.mk [(3, 3)] (f129_spec q l.length k (2 * k + 1) h2 (by omega) (by omega)) rfl rfl ⟨rfl, trivial⟩ ?_
        rintro _ _ ⟨rfl, rfl⟩
        refine And.intro rfl ?_
        refine Exists.intro (swapL q k (2 * k + 1), 2 * k + 1) (And.intro (by show n - (2 * k + 1) < n - k; omega) (And.intro ⟨by rw [swapL_length]; exact h1, by show 2 * k + 1 < l.length; omega, ?_⟩ (And.intro rfl rfl)))
        rw [downL, dif_pos (by omega), hc, if_pos h] at h3
        exact h3
      · have h := of_decide_eq_false h
        rw [downL, dif_pos (by omega), hc, if_neg h] at h3
        refine And.intro (fun _ => ?_) fun _ => ?_ <;> exact ⟨rfl, [1, 3], ⟨_, rfl⟩, by rw [← h3]⟩
  · have h5 := of_decide_eq_false h
    clear h
    refine InvH.val 126 99 m_less ?_
    refine ModH.mk [(3, 3)] (f126_spec q l.length (2 * k + 1) k (by omega) h2 (by omega)) rfl rfl ⟨rfl, trivial⟩ ?_
    rintro _ _ ⟨rfl, rfl⟩
    refine And.intro rfl ?_
    have hc : kid q k n = 2 * k + 1 := by unfold kid; rw [if_neg fun h => absurd h.1 (by omega)]
    refine And.intro (fun h => ?_) fun h => ?_
    · have h := of_decide_eq_true h
      refine InvH.val 129 99 m_swap ?_
      refine ModH.mk [(3, 3)] (f129_spec q l.length k (2 * k + 1) h2 (by omega) (by omega)) rfl rfl ⟨rfl, trivial⟩ ?_
      rintro _ _ ⟨rfl, rfl⟩
      refine And.intro rfl ?_
      refine Exists.intro (swapL q k (2 * k + 1), 2 * k + 1) (And.intro (by show n - (2 * k + 1) < n - k; omega) (And.intro ⟨by rw [swapL_length]; exact h1, by show 2 * k + 1 < l.length; omega, ?_⟩ (And.intro rfl rfl)))
      rw [downL, dif_pos (by omega), hc, if_pos h] at h3
      exact h3
    · have h := of_decide_eq_false h
      rw [downL, dif_pos (by omega), hc, if_neg h] at h3
      refine And.intro (fun _ => ?_) fun _ => ?_ <;> exact ⟨rfl, [1, 3], ⟨_, rfl⟩, by rw [← h3]⟩

end Go.Fw

/- What the program's functions do: the queue of items. -/
namespace Go.Fw
open Go Go.Proofs Heap
set_option maxRecDepth 10000

abbrev frQ (l : List Heap.Item) : Fr := [(1, boxQ l.length), (3, rowQ l)]
theorem f128s_spec (l : List Heap.Item) (x : Heap.Item) (hb : l.length ≤ 1000000000000) : SpecM Try.prog 128 [.ptr (.cur 1) 0, ifcQ x] (frQ l) [(1, 1)] fun r ro => r = .tup [] ∧ ro = frQ (l ++ [x]) :=
  (f128_spec l l.length x (Nat.le_refl _) hb).mono fun r ro ⟨h1, h2⟩ => ⟨h1, by rw [h2, List.take_length]; simp [frQ]⟩
theorem f127s_spec (l : List Heap.Item) (h0 : 0 < l.length) (hb : l.length ≤ 1000000000000) : SpecM Try.prog 127 [.ptr (.cur 1) 0] (frQ l) [(1, 1)] fun r ro => r = ifcQ (at_ l (l.length - 1)) ∧ ro = frQ (l.take (l.length - 1)) :=
  (f127_spec l l.length h0 (Nat.le_refl _) hb).trunc fun r ro ⟨h1, h2⟩ => ⟨3, 97, 2, l.map tIt, l.length - 1, by rw [h2]; rfl, h1, by
    rw [h2]
    show [(1, boxQ (l.length - 1)), (3, Ob.row 97 2 ((l.map tIt).take (l.length - 1)))] = [(1, boxQ (l.take (l.length - 1)).length), (3, rowQ (l.take (l.length - 1)))]
    rw [List.length_take, Nat.min_eq_left (by omega)]
    simp only [rowQ, List.map_take]⟩

theorem f61_spec (l : List Heap.Item) (x : Heap.Item) (hb : l.length < 1000000000000) : SpecM Try.prog 61 [hQ, ifcQ x] (frQ l) [(1, 1)] fun r ro => r = .tup [] ∧ ro = frQ (pushL l x) := by
  refine specM_walk cxm_ok mH_ok [] [] (fn := Try.f61) (by kernel_rfl) rfl (by kernel_rfl) rfl (by unfold FnOK; kernel_rfl) rfl fun hok => ?_
  refine InvH.ptr 128 m_push ?_
  refine ModH.mk [(1, 1), (3, 3)] (f128s_spec l x (by omega)) rfl rfl ⟨rfl, rfl, trivial⟩ ?_
  rintro _ _ ⟨rfl, rfl⟩
  refine And.intro rfl ?_
  refine InvH.val 57 99 m_len ?_
  refine ModH.mk [(3, 3)] (f57_spec (l ++ [x]) (l ++ [x]).length) rfl rfl ⟨rfl, trivial⟩ ?_
  rintro _ _ ⟨rfl, rfl⟩
  refine And.intro rfl ?_
  have hl : (l ++ [x]).length = l.length + 1 := by simp
  refine And.intro (by omega) (And.intro (by omega) ?_)
  rw [show (((l ++ [x]).length : Nat) : Int) - 1 = (l.length : Int) by omega]
  refine ModH.mk [(1, 1), (3, 3)] (f76_spec (l ++ [x]) (l ++ [x]).length l.length rfl (by omega) (by omega)) rfl rfl ⟨rfl, rfl, trivial⟩ ?_
  rintro _ _ ⟨rfl, rfl⟩
  refine And.intro rfl ?_
  refine ⟨rfl, [1, 3], rfl, ?_⟩
  obtain ⟨_, h, _⟩ := up_spec l.length (l ++ [x]) (by omega)
  show [(1, boxQ (l ++ [x]).length), (3, rowQ (upL (l ++ [x]) l.length))] = [(1, boxQ (pushL l x).length), (3, rowQ (pushL l x))]
  rw [pushL, h]

theorem f58_spec (l : List Heap.Item) (h0 : 0 < l.length) (hb : l.length ≤ 1000000000000) : SpecM Try.prog 58 [hQ] (frQ l) [(1, 1)] fun r ro => r = ifcQ (at_ (popL l) (l.length - 1)) ∧ ro = frQ ((popL l).take (l.length - 1)) := by
  refine specM_walk cxm_ok mH_ok [] [] (fn := Try.f58) (by kernel_rfl) rfl (by kernel_rfl) rfl (by unfold FnOK; kernel_rfl) rfl fun hok => ?_
  refine InvH.val 57 99 m_len ?_
  refine ModH.mk [(3, 3)] (f57_spec l l.length) rfl rfl ⟨rfl, trivial⟩ ?_
  rintro _ _ ⟨rfl, rfl⟩
  refine And.intro rfl ?_
  refine And.intro (by omega) (And.intro (by omega) ?_)
  rw [show ((l.length : Nat) : Int) - 1 = ((l.length - 1 : Nat) : Int) by omega]
  refine InvH.val 129 99 m_swap ?_
  refine ModH.mk [(3, 3)] (f129_spec l l.length 0 (l.length - 1) h0 (by omega) (Nat.le_refl _)) rfl rfl ⟨rfl, trivial⟩ ?_
  rintro _ _ ⟨rfl, rfl⟩
  refine And.intro rfl ?_
  refine ModH.mk [(1, 1), (3, 3)] (f72_spec (swapL l 0 (l.length - 1)) l.length 0 (l.length - 1) (swapL_length ..) h0 (by omega) hb) rfl rfl ⟨rfl, rfl, trivial⟩ ?_
  rintro _ _ ⟨⟨b, rfl⟩, rfl⟩
  refine And.intro rfl ?_
  obtain ⟨_, h1, _⟩ := down_spec _ (l.length - 1) 0 (swapL l 0 (l.length - 1)) rfl (by rw [swapL_length]; omega) (by rw [swapL_length]; exact h0)
  rw [swapL_length] at h1
  have h1 : (popL l).length = l.length := h1
  have hp := f127s_spec (popL l) (by rw [h1]; exact h0) (by rw [h1]; exact hb)
  rw [h1] at hp
  have hfr : frQ (popL l) = [(1, boxQ l.length), (3, rowQ (popL l))] := by simp only [frQ, h1]
  rw [hfr] at hp
  refine And.intro (fun _ => ?_) fun _ => ?_
  · refine InvH.ptr 127 m_pop ?_
    refine ModH.mk [(1, 1), (3, 3)] hp rfl rfl ⟨rfl, rfl, trivial⟩ ?_
    rintro _ _ ⟨rfl, rfl⟩
    refine And.intro rfl ?_
    exact ⟨rfl, [1, 3], rfl, rfl⟩
  · refine InvH.ptr 127 m_pop ?_
    refine ModH.mk [(1, 1), (3, 3)] hp rfl rfl ⟨rfl, rfl, trivial⟩ ?_
    rintro _ _ ⟨rfl, rfl⟩
    refine And.intro rfl ?_
    exact ⟨rfl, [1, 3], rfl, rfl⟩

end Go.Fw

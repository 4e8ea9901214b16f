/- The queue of the estimates. -/
import Derived.Test.YtjmekjoomdblfaaZI
import Derived.Test.YtjmekjoomdblfaaZG

/- What the program's functions do: the heap of items, its methods. -/
namespace Go.Fw
open Go Go.Proofs Heap
set_option maxRecDepth 10000

def tIt (x : Heap.Item) : List T := [.v (.int .i64 x.1), .v (.int .i64 x.2)]
abbrev rowQ (l : List Heap.Item) : Ob := .row 93 2 (l.map tIt)
abbrev boxQ (n : Nat) : Ob := .box [.osl (.cur 3) 2 0 n]

theorem f103_spec (l : List Heap.Item) (n : Nat) : SpecM Try.prog 103 [.osl (.cur 3) 2 0 n] [(3, rowQ l)] [(3, 2)] fun r ro => r = .int n ∧ ro = [(3, rowQ l)] := by
  refine specM_walk cxm_ok mH_ok [] [] (fn := Try.f103) (by kernel_rfl) rfl (by kernel_rfl) rfl (by unfold FnOK; kernel_rfl) rfl fun hok => ?_
  exact ⟨rfl, [3], rfl, rfl⟩

def od104 : Od := [(1, [(0, .pure), (1, .pure), (2, .pure), (3, .pure), (4, .pure), (5, .pure), (6, .pure), (7, .pure), (8, .pure), (9, .pure), (10, .pure), (11, .pure)])]
theorem at_map {l : List Heap.Item} {i : Nat} (h : i < l.length) : (l.map tIt)[i]? = some (tIt (at_ l i)) := by rw [List.getElem?_map, at_get h]; rfl
theorem f104_spec (l : List Heap.Item) (n i j : Nat) (hi : i < n) (hj : j < n) (hn : n ≤ l.length) : SpecM Try.prog 104 [.osl (.cur 3) 2 0 n, .int i, .int j] [(3, rowQ l)] [(3, 2)] fun r ro => r = .bool (decide (vl l i < vl l j)) ∧ ro = [(3, rowQ l)] := by
  refine specM_walk cxm_ok mH_ok [] od104 (fn := Try.f104) (by kernel_rfl) rfl (by kernel_rfl) rfl (by unfold FnOK; kernel_rfl) rfl fun hok => ?_
  refine And.intro (by omega) (And.intro (by omega) ?_)
  refine Exists.intro _ (And.intro (by rw [Nat.zero_add]; exact at_map (by omega)) ?_)
  refine And.intro (by omega) (And.intro (by omega) ?_)
  refine Exists.intro _ (And.intro (by rw [Nat.zero_add]; exact at_map (by omega)) ?_)
  refine And.intro (fun h => ?_) fun h => ?_
  · exact ⟨rfl, [3], congrArg (fun b => LV.t (.v (.bool b))) h.symm, rfl⟩
  · exact ⟨rfl, [3], congrArg (fun b => LV.t (.v (.bool b))) h.symm, rfl⟩

theorem set_map {l : List Heap.Item} {i : Nat} {x : Heap.Item} : (l.map tIt).set i (tIt x) = (l.set i x).map tIt := by rw [List.map_set]
def od107 : Od := [(0, [(0, .tree (.pure 0 (.pure 1 (.pure 2 (.pure 3 (.pure 4 (.pure 5 (.pure 6 (.pure 7 (.pure 8 (.pure 9 (.pure 10 (.pure 11 (.pure 12 (.last 13 (.pure 14 (.last 15 .done [])) [2, 3])))))))))))))))])]
theorem f107_spec (l : List Heap.Item) (n i j : Nat) (hi : i < n) (hj : j < n) (hn : n ≤ l.length) : SpecM Try.prog 107 [.osl (.cur 3) 2 0 n, .int i, .int j] [(3, rowQ l)] [(3, 2)] fun r ro => r = .tup [] ∧ ro = [(3, rowQ (swapL l i j))] := by
  refine specM_walk cxm_ok mH_ok [] od107 (fn := Try.f107) (by kernel_rfl) rfl (by kernel_rfl) rfl (by unfold FnOK; kernel_rfl) rfl fun hok => ?_
  refine And.intro (by omega) (And.intro (by omega) ?_)
  refine Exists.intro _ (And.intro (by rw [Nat.zero_add]; exact at_map (by omega)) ?_)
  refine And.intro (by exact Nat.le_refl _) ?_
  refine And.intro (by omega) (And.intro (by omega) ?_)
  refine Exists.intro _ (And.intro (by rw [Nat.zero_add]; exact at_map (by omega)) ?_)
  refine And.intro (by exact Nat.le_refl _) ?_
  refine And.intro (by omega) (And.intro (by omega) ?_)
  refine Exists.intro _ (And.intro (by rw [Nat.zero_add]; exact at_map (by omega)) (And.intro (Nat.le_refl _) ?_))
  refine And.intro rfl (And.intro rfl ?_)
  refine And.intro (by omega) (And.intro (by omega) ?_)
  refine Exists.intro (tIt (at_ (l.set i (at_ l j)) j)) (And.intro ?_ (And.intro (Nat.le_refl _) ?_))
  · show ((l.map tIt).set (0 + i) (tIt (at_ l j)))[0 + j]? = _
    rw [Nat.zero_add, Nat.zero_add, set_map]; exact at_map (by simp; omega)
  refine ⟨rfl, [3], rfl, ?_⟩
  show [(3, Ob.row 93 2 (((l.map tIt).set (0 + i) (tIt (at_ l j))).set (0 + j) (tIt (at_ l i))))] = _
  rw [Nat.zero_add, Nat.zero_add, set_map, set_map]; rfl

abbrev ifcQ (x : Heap.Item) : LV := .ifc 93 (.agg [.int x.1, .int x.2])
def od106 : Od := [(0, [(0, .tree (.pure 0 (.pure 1 (.pure 2 (.pure 3 (.pure 4 (.pure 5 (.eff 6 (.last 7 (.pure 8 (.last 9 .done [])) [0])))))))))])]
theorem f106_spec (l : List Heap.Item) (n : Nat) (x : Heap.Item) (hn : n ≤ l.length) (hb : n ≤ 1000000) : SpecM Try.prog 106 [.ptr (.cur 1) 0, ifcQ x] [(1, boxQ n), (3, rowQ l)] [(1, 1)] fun r ro => r = .tup [] ∧ ro = [(1, boxQ (n + 1)), (3, rowQ (l.take n ++ [x]))] := by
  refine specM_walk cxm_ok mH_ok [] od106 (fn := Try.f106) (by kernel_rfl) rfl (by kernel_rfl) rfl (by unfold FnOK; kernel_rfl) rfl fun hok => ?_
  have hlen : ((l.map tIt).take n ++ [tIt x]).length = n + 1 := by simp; omega
  refine And.intro (Nat.le_refl 1) (And.intro (by rw [List.length_map]; exact hn) (And.intro ?_ (And.intro ?_ ?_)))
  · show ((l.map tIt).take n ++ [tIt x]).length * 16 ≤ 140737488355328
    omega
  · show ((l.map tIt).take n ++ [tIt x]).length ≤ 140737488355328
    omega
  refine And.intro rfl ?_
  refine ⟨rfl, [1, 3], rfl, ?_⟩
  show [(1, Ob.box [.osl (.cur 3) 2 0 ((l.map tIt).take n ++ [tIt x]).length]), (3, Ob.row 93 2 ((l.map tIt).take n ++ [tIt x]))] = _
  rw [hlen]
  simp only [rowQ, List.map_append, List.map_take, List.map_cons, List.map_nil]

def od105 : Od := [(1, [(0, .tree (.pure 0 (.pure 1 (.pure 2 (.pure 3 (.pure 4 (.pure 5 (.pure 6 (.pure 7 (.pure 8 (.pure 9 (.eff 10 (.last 11 .done [])))))))))))))]), (2, [(0, .tree (.pure 0 (.pure 1 (.pure 2 (.pure 3 (.pure 4 (.pure 5 (.pure 6 (.pure 7 (.pure 8 (.pure 9 (.pure 10 (.last 11 .done [])))))))))))))])]
theorem f105_spec (l : List Heap.Item) (n : Nat) (h0 : 0 < n) (hn : n ≤ l.length) (hb : n ≤ 1000000) : SpecM Try.prog 105 [.ptr (.cur 1) 0] [(1, boxQ n), (3, rowQ l)] [(1, 1)] fun r ro => r = ifcQ (at_ l (n - 1)) ∧ ro = [(1, boxQ (n - 1)), (3, rowQ l)] := by
  refine specM_walk cxm_ok mH_ok [] od105 (fn := Try.f105) (by kernel_rfl) rfl (by kernel_rfl) rfl (by unfold FnOK; kernel_rfl) rfl fun hok => ?_
  refine And.intro (by omega) (And.intro (by omega) ?_)
  have e1 : ((n : Int) - 1).toNat = n - 1 := by omega
  refine And.intro (by omega) (And.intro (by omega) ?_)
  have e2 : (l.map tIt)[0 + ((n : Int) - 1).toNat]? = some (tIt (at_ l (n - 1))) := by rw [Nat.zero_add, e1]; exact at_map (by omega)
  refine Exists.intro _ (And.intro e2 ?_)
  refine And.intro (by exact Nat.le_refl _) ?_
  refine And.intro (by omega) (And.intro (by omega) ?_)
  refine And.intro (Int.le_refl 0) (And.intro (by show (0 : Int) ≤ (n : Int) - 1; omega) (And.intro (by show (n : Int) - 1 ≤ n; omega) ?_))
  refine ⟨rfl, [1, 3], rfl, ?_⟩
  show [(1, Ob.box [.osl (.cur 3) 2 0 ((n : Int) - 1).toNat]), (3, rowQ l)] = _
  rw [e1]

end Go.Fw

/- What the program's functions do: the heap of items, up and down. -/
namespace Go.Fw
open Go Go.Proofs Heap
set_option maxRecDepth 10000

theorem m_len : MthV Try.prog 84 "Len" 103 86 := fun a w => by kernel_rfl
theorem m_less : MthV Try.prog 84 "Less" 104 86 := fun a w => by kernel_rfl
theorem m_swap : MthV Try.prog 84 "Swap" 107 86 := fun a w => by kernel_rfl
theorem m_pop : MthP Try.prog 84 "Pop" 105 := fun a w => by kernel_rfl
theorem m_push : MthP Try.prog 84 "Push" 106 := fun a w => by kernel_rfl

abbrev hQ : LV := .ifc 84 (.ptr (.cur 1) 0)
def kp77 : Kp := [(0, ([0, 1], [1, 3]))]
theorem f77_spec (l : List Heap.Item) (m j : Nat) (hm : l.length = m) (hj : j < m) (hb : m ≤ 1000000) : SpecM Try.prog 77 [hQ, .int j] [(1, boxQ m), (3, rowQ l)] [(1, 1)] fun r ro => r = .tup [] ∧ ro = [(1, boxQ m), (3, rowQ (upL l j))] := by
  subst hm
  refine specM_walk cxm_ok mH_ok kp77 [] (fn := Try.f77) (by kernel_rfl) rfl (by kernel_rfl) rfl (by unfold FnOK; kernel_rfl) rfl fun hok => ?_
  refine LoopX.mk (List Heap.Item × Nat) (fun p => p.1.length = l.length ∧ p.2 < l.length ∧ upL p.1 p.2 = upL l j) (fun p => [(0, hQ), (1, .int p.2), (1000001, .osl (.cur 1) 1 0 0)]) (fun p => ⟨[], [(1, boxQ l.length), (3, rowQ p.1)]⟩) (fun p => p.2) (l, j) ⟨rfl, hj, rfl⟩ ⟨rfl, rfl⟩ fun p hI => ?_
  obtain ⟨q, k⟩ := p
  obtain ⟨h1, h2, h3⟩ := hI
  simp only at h1 h2 h3
  refine And.intro (by omega) (And.intro (by omega) ?_)
  refine And.intro (by omega) ?_
  have e1 : ((k : Int) - 1).tdiv 2 = (((k - 1) / 2 : Nat) : Int) := by
    cases k with
    | zero => rfl
    | succ k =>
      rw [show ((k + 1 : Nat) : Int) - 1 = (k : Int) by omega, Nat.add_sub_cancel]
      rfl
  show arW cxm.wrap .i64 (((k : Int) - 1).tdiv 2) _
  rw [e1]
  refine And.intro (by omega) (And.intro (by omega) ?_)
  refine And.intro (fun h => ?_) fun h => ?_
  · have hk : k = 0 := by have := eq_of_beq h; simp only at this; omega
    refine ⟨rfl, [1, 3], rfl, ?_⟩
    subst hk
    rw [upL] at h3
    rw [← h3]; rfl
  · have hk : k ≠ 0 := by rintro rfl; simp at h
    refine InvH.val 104 86 m_less ?_
    refine ModH.mk [(3, 3)] (f104_spec q l.length k ((k - 1) / 2) h2 (by omega) (by omega)) rfl rfl ⟨rfl, trivial⟩ ?_
    rintro _ _ ⟨rfl, rfl⟩
    refine And.intro rfl ?_
    refine And.intro (fun h => ?_) fun h => ?_
    · have h := of_decide_eq_true h
      refine InvH.val 107 86 m_swap ?_
      refine ModH.mk [(3, 3)] (f107_spec q l.length ((k - 1) / 2) k (by omega) h2 (by omega)) rfl rfl ⟨rfl, trivial⟩ ?_
      rintro _ _ ⟨rfl, rfl⟩
      refine And.intro rfl ?_
      refine Exists.intro (swapL q ((k - 1) / 2) k, (k - 1) / 2) (And.intro (by show (k - 1) / 2 < k; omega) (And.intro ⟨by rw [swapL_length]; exact h1, by show (k - 1) / 2 < l.length; omega, ?_⟩ (And.intro rfl rfl)))
      rw [upL, dif_neg hk, if_pos h] at h3
      exact h3
    · have h := of_decide_eq_false h
      refine ⟨rfl, [1, 3], rfl, ?_⟩
      rw [upL, dif_neg hk, if_neg h] at h3
      rw [← h3]

def kp79 : Kp := [(2, ([0, 1, 2, 7], [1, 3]))]
theorem f79_spec (l : List Heap.Item) (m i0 n : Nat) (hm : l.length = m) (hi : i0 < m) (hn : n ≤ m) (hb : m ≤ 1000000) :
    SpecM Try.prog 79 [hQ, .int i0, .int n] [(1, boxQ m), (3, rowQ l)] [(1, 1)] fun r ro => (∃ b, r = .bool b) ∧ ro = [(1, boxQ m), (3, rowQ (downL l i0 n))] := by
  subst hm
  refine specM_walk cxm_ok mH_ok kp79 [] (fn := Try.f79) (by kernel_rfl) rfl (by kernel_rfl) rfl (by unfold FnOK; kernel_rfl) rfl fun hok => ?_
  refine LoopX.mk (List Heap.Item × Nat) (fun p => p.1.length = l.length ∧ p.2 < l.length ∧ downL p.1 p.2 n = downL l i0 n) (fun p => [(0, hQ), (1, .int i0), (2, .int n), (7, .int p.2), (1000001, .osl (.cur 1) 1 0 0)]) (fun p => ⟨[], [(1, boxQ l.length), (3, rowQ p.1)]⟩) (fun p => n - p.2) (l, i0) ⟨rfl, hi, rfl⟩ ⟨rfl, rfl⟩ fun p hI => ?_
  obtain ⟨q, k⟩ := p
  obtain ⟨h1, h2, h3⟩ := hI
  simp only at h1 h2 h3
  refine And.intro (by omega) (And.intro (by omega) ?_)
  refine And.intro (by omega) (And.intro (by omega) ?_)
  have e1 : (2 : Int) * (k : Int) + 1 = ((2 * k + 1 : Nat) : Int) := by omega
  rw [show (2 : Int) * ((q, k).2 : Int) + 1 = ((2 * k + 1 : Nat) : Int) from e1]
  refine And.intro (fun h => ?_) fun h => ?_
  · have h := of_decide_eq_true h
    rw [downL, dif_neg (by omega)] at h3
    refine And.intro (fun _ => ?_) fun _ => ?_ <;> exact ⟨rfl, [1, 3], ⟨_, rfl⟩, by rw [← h3]⟩
  have h4 := of_decide_eq_false h
  clear h
  refine And.intro (fun h => ?_) fun h => ?_
  · have h := of_decide_eq_true h; omega
  clear h
  refine And.intro (by omega) (And.intro (by omega) ?_)
  rw [show ((2 * k + 1 : Nat) : Int) + 1 = ((2 * k + 2 : Nat) : Int) by omega]
  refine And.intro (fun h => ?_) fun h => ?_
  · have h5 := of_decide_eq_true h
    clear h
    refine InvH.val 104 86 m_less ?_
    refine ModH.mk [(3, 3)] (f104_spec q l.length (2 * k + 2) (2 * k + 1) (by omega) (by omega) (by omega)) rfl rfl ⟨rfl, trivial⟩ ?_
    rintro _ _ ⟨rfl, rfl⟩
    refine And.intro rfl ?_
    refine And.intro (fun h => ?_) fun h => ?_
    · have h6 := of_decide_eq_true h
      clear h
      refine InvH.val 104 86 m_less ?_
      refine ModH.mk [(3, 3)] (f104_spec q l.length (2 * k + 2) k (by omega) h2 (by omega)) rfl rfl ⟨rfl, trivial⟩ ?_
      rintro _ _ ⟨rfl, rfl⟩
      refine And.intro rfl ?_
      have hc : kid q k n = 2 * k + 2 := by unfold kid; rw [if_pos ⟨by omega, h6⟩]
      refine And.intro (fun h => ?_) fun h => ?_
      · have h := of_decide_eq_true h
        refine InvH.val 107 86 m_swap ?_
        refine ModH.mk [(3, 3)] (f107_spec q l.length k (2 * k + 2) h2 (by omega) (by omega)) rfl rfl ⟨rfl, trivial⟩ ?_
        rintro _ _ ⟨rfl, rfl⟩
        refine And.intro rfl ?_
        refine Exists.intro (swapL q k (2 * k + 2), 2 * k + 2) (And.intro (by show n - (2 * k + 2) < n - k; omega) (And.intro ⟨by rw [swapL_length]; exact h1, by show 2 * k + 2 < l.length; omega, ?_⟩ (And.intro rfl rfl)))
        rw [downL, dif_pos (by omega), hc, if_pos h] at h3
        exact h3
      · have h := of_decide_eq_false h
        rw [downL, dif_pos (by omega), hc, if_neg h] at h3
        refine And.intro (fun _ => ?_) fun _ => ?_ <;> exact ⟨rfl, [1, 3], ⟨_, rfl⟩, by rw [← h3]⟩
    · have h6 := of_decide_eq_false h
      clear h
      refine InvH.val 104 86 m_less ?_
      refine ModH.mk [(3, 3)] (f104_spec q l.length (2 * k + 1) k (by omega) h2 (by omega)) rfl rfl ⟨rfl, trivial⟩ ?_
      rintro _ _ ⟨rfl, rfl⟩
      refine And.intro rfl ?_
      have hc : kid q k n = 2 * k + 1 := by unfold kid; rw [if_neg fun h => h6 h.2]
      refine And.intro (fun h => ?_) fun h => ?_
      · have h := of_decide_eq_true h
        refine InvH.val 107 86 m_swap ?_
        refine ModH.mk [(3, 3)] (f107_spec q l.length k (2 * k + 1) h2 (by omega) (by omega)) rfl rfl ⟨rfl, trivial⟩ ?_
        rintro _ _ ⟨rfl, rfl⟩
        refine And.intro rfl ?_
        refine Exists.intro (swapL q k (2 * k + 1), 2 * k + 1) (And.intro (by show n - (2 * k + 1) < n - k; omega) (And.intro ⟨by rw [swapL_length]; exact h1, by show 2 * k + 1 < l.length; omega, ?_⟩ (And.intro rfl rfl)))
        rw [downL, dif_pos (by omega), hc, if_pos h] at h3
        exact h3
      · have h := of_decide_eq_false h
        rw [downL, dif_pos (by omega), hc, if_neg h] at h3
        refine And.intro (fun _ => ?_) fun _ => ?_ <;> exact ⟨rfl, [1, 3], ⟨_, rfl⟩, by rw [← h3]⟩
  · have h5 := of_decide_eq_false h
    clear h
    refine InvH.val 104 86 m_less ?_
    refine ModH.mk [(3, 3)] (f104_spec q l.length (2 * k + 1) k (by omega) h2 (by omega)) rfl rfl ⟨rfl, trivial⟩ ?_
    rintro _ _ ⟨rfl, rfl⟩
    refine And.intro rfl ?_
    have hc : kid q k n = 2 * k + 1 := by unfold kid; rw [if_neg fun h => absurd h.1 (by omega)]
    refine And.intro (fun h => ?_) fun h => ?_
    · have h := of_decide_eq_true h
      refine InvH.val 107 86 m_swap ?_
      refine ModH.mk [(3, 3)] (f107_spec q l.length k (2 * k + 1) h2 (by omega) (by omega)) rfl rfl ⟨rfl, trivial⟩ ?_
      rintro _ _ ⟨rfl, rfl⟩
      refine And.intro rfl ?_
      refine Exists.intro (swapL q k (2 * k + 1), 2 * k + 1) (And.intro (by show n - (2 * k + 1) < n - k; omega) (And.intro ⟨by rw [swapL_length]; exact h1, by show 2 * k + 1 < l.length; omega, ?_⟩ (And.intro rfl rfl)))
      rw [downL, dif_pos (by omega), hc, if_pos h] at h3
      exact h3
    · have h := of_decide_eq_false h
      rw [downL, dif_pos (by omega), hc, if_neg h] at h3
      refine And.intro (fun _ => ?_) fun _ => ?_ <;> exact ⟨rfl, [1, 3], ⟨_, rfl⟩, by rw [← h3]⟩

end Go.Fw

/- What the program's functions do: the queue of items. -/
namespace Go.Fw
open Go Go.Proofs Heap
set_option maxRecDepth 10000

abbrev frQ (l : List Heap.Item) : Fr := [(1, boxQ l.length), (3, rowQ l)]
theorem f106s_spec (l : List Heap.Item) (x : Heap.Item) (hb : l.length ≤ 1000000) : SpecM Try.prog 106 [.ptr (.cur 1) 0, ifcQ x] (frQ l) [(1, 1)] fun r ro => r = .tup [] ∧ ro = frQ (l ++ [x]) :=
  (f106_spec l l.length x (Nat.le_refl _) hb).mono fun r ro ⟨h1, h2⟩ => ⟨h1, by rw [h2, List.take_length]; simp [frQ]⟩
theorem f105s_spec (l : List Heap.Item) (h0 : 0 < l.length) (hb : l.length ≤ 1000000) : SpecM Try.prog 105 [.ptr (.cur 1) 0] (frQ l) [(1, 1)] fun r ro => r = ifcQ (at_ l (l.length - 1)) ∧ ro = frQ (l.take (l.length - 1)) :=
  (f105_spec l l.length h0 (Nat.le_refl _) hb).trunc fun r ro ⟨h1, h2⟩ => ⟨3, 93, 2, l.map tIt, l.length - 1, by rw [h2]; rfl, h1, by
    rw [h2]
    show [(1, boxQ (l.length - 1)), (3, Ob.row 93 2 ((l.map tIt).take (l.length - 1)))] = [(1, boxQ (l.take (l.length - 1)).length), (3, rowQ (l.take (l.length - 1)))]
    rw [List.length_take, Nat.min_eq_left (by omega)]
    simp only [rowQ, List.map_take]⟩

theorem f67_spec (l : List Heap.Item) (x : Heap.Item) (hb : l.length < 1000000) : SpecM Try.prog 67 [hQ, ifcQ x] (frQ l) [(1, 1)] fun r ro => r = .tup [] ∧ ro = frQ (pushL l x) := by
  refine specM_walk cxm_ok mH_ok [] [] (fn := Try.f67) (by kernel_rfl) rfl (by kernel_rfl) rfl (by unfold FnOK; kernel_rfl) rfl fun hok => ?_
  refine InvH.ptr 106 m_push ?_
  refine ModH.mk [(1, 1), (3, 3)] (f106s_spec l x (by omega)) rfl rfl ⟨rfl, rfl, trivial⟩ ?_
  rintro _ _ ⟨rfl, rfl⟩
  refine And.intro rfl ?_
  refine InvH.val 103 86 m_len ?_
  refine ModH.mk [(3, 3)] (f103_spec (l ++ [x]) (l ++ [x]).length) rfl rfl ⟨rfl, trivial⟩ ?_
  rintro _ _ ⟨rfl, rfl⟩
  refine And.intro rfl ?_
  have hl : (l ++ [x]).length = l.length + 1 := by simp
  refine And.intro (by omega) (And.intro (by omega) ?_)
  rw [show (((l ++ [x]).length : Nat) : Int) - 1 = (l.length : Int) by omega]
  refine ModH.mk [(1, 1), (3, 3)] (f77_spec (l ++ [x]) (l ++ [x]).length l.length rfl (by omega) (by omega)) rfl rfl ⟨rfl, rfl, trivial⟩ ?_
  rintro _ _ ⟨rfl, rfl⟩
  refine And.intro rfl ?_
  refine ⟨rfl, [1, 3], rfl, ?_⟩
  obtain ⟨_, h, _⟩ := up_spec l.length (l ++ [x]) (by omega)
  show [(1, boxQ (l ++ [x]).length), (3, rowQ (upL (l ++ [x]) l.length))] = [(1, boxQ (pushL l x).length), (3, rowQ (pushL l x))]
  rw [pushL, h]

theorem f70_spec (l : List Heap.Item) (h0 : 0 < l.length) (hb : l.length ≤ 1000000) : SpecM Try.prog 70 [hQ] (frQ l) [(1, 1)] fun r ro => r = ifcQ (at_ (popL l) (l.length - 1)) ∧ ro = frQ ((popL l).take (l.length - 1)) := by
  refine specM_walk cxm_ok mH_ok [] [] (fn := Try.f70) (by kernel_rfl) rfl (by kernel_rfl) rfl (by unfold FnOK; kernel_rfl) rfl fun hok => ?_
  refine InvH.val 103 86 m_len ?_
  refine ModH.mk [(3, 3)] (f103_spec l l.length) rfl rfl ⟨rfl, trivial⟩ ?_
  rintro _ _ ⟨rfl, rfl⟩
  refine And.intro rfl ?_
  refine And.intro (by omega) (And.intro (by omega) ?_)
  rw [show ((l.length : Nat) : Int) - 1 = ((l.length - 1 : Nat) : Int) by omega]
  refine InvH.val 107 86 m_swap ?_
  refine ModH.mk [(3, 3)] (f107_spec l l.length 0 (l.length - 1) h0 (by omega) (Nat.le_refl _)) rfl rfl ⟨rfl, trivial⟩ ?_
  rintro _ _ ⟨rfl, rfl⟩
  refine And.intro rfl ?_
  refine ModH.mk [(1, 1), (3, 3)] (f79_spec (swapL l 0 (l.length - 1)) l.length 0 (l.length - 1) (swapL_length ..) h0 (by omega) hb) rfl rfl ⟨rfl, rfl, trivial⟩ ?_
  rintro _ _ ⟨⟨b, rfl⟩, rfl⟩
  refine And.intro rfl ?_
  obtain ⟨_, h1, _⟩ := down_spec _ (l.length - 1) 0 (swapL l 0 (l.length - 1)) rfl (by rw [swapL_length]; omega) (by rw [swapL_length]; exact h0)
  rw [swapL_length] at h1
  have h1 : (popL l).length = l.length := h1
  have hp := f105s_spec (popL l) (by rw [h1]; exact h0) (by rw [h1]; exact hb)
  rw [h1] at hp
  have hfr : frQ (popL l) = [(1, boxQ l.length), (3, rowQ (popL l))] := by simp only [frQ, h1]
  rw [hfr] at hp
  refine And.intro (fun _ => ?_) fun _ => ?_
  · refine InvH.ptr 105 m_pop ?_
    refine ModH.mk [(1, 1), (3, 3)] hp rfl rfl ⟨rfl, rfl, trivial⟩ ?_
    rintro _ _ ⟨rfl, rfl⟩
    refine And.intro rfl ?_
    exact ⟨rfl, [1, 3], rfl, rfl⟩
  · refine InvH.ptr 105 m_pop ?_
    refine ModH.mk [(1, 1), (3, 3)] hp rfl rfl ⟨rfl, rfl, trivial⟩ ?_
    rintro _ _ ⟨rfl, rfl⟩
    refine And.intro rfl ?_
    exact ⟨rfl, [1, 3], rfl, rfl⟩

theorem f51_spec (l : List Heap.Item) (x : Heap.Item) (hb : l.length < 1000000) : SpecM Try.prog 51 [.agg [hQ], .agg [.int x.1, .int x.2]] (frQ l) [(1, 1)] fun r ro => r = .tup [] ∧ ro = frQ (pushL l x) := by
  refine specM_walk cxm_ok mH_ok [] [] (fn := Try.f51) (by kernel_rfl) rfl (by kernel_rfl) rfl (by unfold FnOK; kernel_rfl) rfl fun hok => ?_
  refine ModH.mk [(1, 1), (3, 3)] (f67_spec l x hb) rfl rfl ⟨rfl, rfl, trivial⟩ ?_
  rintro _ _ ⟨rfl, rfl⟩
  refine And.intro rfl ?_
  exact ⟨rfl, [1, 3], rfl, rfl⟩

theorem f54_spec (l : List Heap.Item) (h0 : 0 < l.length) (hb : l.length ≤ 1000000) : SpecM Try.prog 54 [.agg [hQ]] (frQ l) [(1, 1)] fun r ro => r = .agg [.int (at_ (popL l) (l.length - 1)).1, .int (at_ (popL l) (l.length - 1)).2] ∧ ro = frQ ((popL l).take (l.length - 1)) := by
  refine specM_walk cxm_ok mH_ok [] [] (fn := Try.f54) (by kernel_rfl) rfl (by kernel_rfl) rfl (by unfold FnOK; kernel_rfl) rfl fun hok => ?_
  refine ModH.mk [(1, 1), (3, 3)] (f70_spec l h0 hb) rfl rfl ⟨rfl, rfl, trivial⟩ ?_
  rintro _ _ ⟨rfl, rfl⟩
  refine And.intro rfl ?_
  exact ⟨rfl, [1, 3], rfl, rfl⟩

end Go.Fw

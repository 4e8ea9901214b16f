/- The functions of the reference; the example. -/
import Derived.Test.YtkelfldopopgcaaZO

/- What the reference's functions do: patterns, additive ones. -/
namespace Go.Fw
open Go Go.Proofs
set_option maxRecDepth 10000

theorem f27_spec (t : Task) (n1 : Bool) (p : List Int) (out : List Fr) : SpecP Try.prog 27 [.task t, .ints n1 p] out fun r ro => r = .bool (risingB p t.facts.length) ∧ ro = [] := by
  refine spec_body cx_ok [] [] (fn := Try.f27) (by kernel_rfl) rfl (by kernel_rfl) rfl (by unfold FnOK; kernel_rfl) fun hok => ?_
  refine SpecP.mono (f39_spec n1 p (t.facts.map tS).length []) ?_
  rintro _ _ ⟨rfl, rfl⟩
  rw [List.length_map]
  refine And.intro (fun h => ?_) fun h => ?_
  · exact Exists.intro [] (ret_bool h rfl)
  · exact Exists.intro [] (ret_bool h rfl)

def kq54 : Kp := [(2, ([1, 8, 9, 10], [16]))]
theorem f54_spec (a : Actn) (n1 : Bool) (p : List Int) (he : a.effs.length ≤ 1000000) (out : List Fr) : SpecP Try.prog 54 [.act a, .ints n1 p] out fun r ro => r = .bool (touchB a p) ∧ ro = [] := by
  refine spec_body cx_ok kq54 [] (fn := Try.f54) (by kernel_rfl) rfl (by kernel_rfl) rfl (by unfold FnOK; kernel_rfl) fun hok => ?_
  refine LoopW.mk Nat (fun i => i ≤ a.effs.length ∧ ∀ j (hj : j < a.effs.length), j < i → hasB p a.effs[j].lit.fact = false) (fun i => [(1, .ints n1 p), (8, .t (.sl a.en 3 (a.effs.map tEff))), (9, .int (a.effs.map tEff).length), (10, .int i)])
    (fun _ => ⟨out, [(16, .box (cellsAct a))]⟩) (fun i => a.effs.length - i) 0 ⟨Nat.zero_le _, fun j _ h => by cases h⟩ ⟨rfl, rfl⟩ fun i hI => ?_
  refine And.intro (fun h1 => ?_) fun h1 => ?_
  · have hi := lt_of_dec h1
    refine And.intro (by omega) (Exists.intro _ (And.intro (get_map hi) ?_))
    refine SpecP.mono (f44_spec n1 p a.effs[i].lit.fact _) ?_
    rintro _ _ ⟨rfl, rfl⟩
    refine And.intro (fun h2 => ?_) fun h2 => ?_
    · exact Exists.intro [] (ret_bool (List.any_eq_true.2 ⟨_, List.getElem_mem hi, h2⟩ : touchB a p = true) rfl)
    · refine And.intro (by omega) (And.intro (by omega) ?_)
      refine Exists.intro (i + 1) (And.intro (by show a.effs.length - (i + 1) < a.effs.length - i; omega) (And.intro ⟨hi, fun j hj hji => ?_⟩ (And.intro rfl rfl)))
      rcases Nat.lt_or_ge j i with h | h
      · exact hI.2 j hj h
      · have : j = i := by omega
        subst this; exact h2
  · have hi : a.effs.length ≤ i := ge_of_dec h1
    refine Exists.intro [] (ret_bool (List.any_eq_false.2 fun e he => ?_ : touchB a p = false) rfl)
    obtain ⟨j, hj, rfl⟩ := List.getElem_of_mem he
    rw [hI.2 j hj (by omega)]; exact Bool.noConfusion

def kq30 : Kp := [(2, ([1, 11, 12, 13], [16])), (6, ([1, 6, 7, 11, 12, 13, 17, 18, 19], [16, 48]))]
theorem countP_take {α : Type} {q : α → Bool} {l : List α} {i : Nat} (hi : i < l.length) : (l.take (i + 1)).countP q = (l.take i).countP q + if q l[i] = true then 1 else 0 := by
  rw [List.take_add_one, List.getElem?_eq_getElem hi, Option.toList_some, List.countP_append, List.countP_singleton]
theorem f30_spec (t : Task) (n1 : Bool) (l : List (Bool × List Int)) (TK : TaskOK t) (hl : l.length ≤ 1000000000) (out : List Fr) : SpecP Try.prog 30 [.task t, .t (.sl n1 1 (tLs l))] out fun r ro => r = .bool (addB t l) ∧ ro = [] := by
  refine spec_body cx_ok kq30 [] (fn := Try.f30) (by kernel_rfl) rfl (by kernel_rfl) rfl (by unfold FnOK; kernel_rfl) fun hok => ?_
  have hA := TK.acts
  refine LoopW.mk Nat (fun i => i ≤ t.acts.length ∧ ∀ j (hj : j < t.acts.length), j < i → l.countP (fun p => touchB t.acts[j] p.2) ≤ 1) (fun i => [(1, .t (.sl n1 1 (tLs l))), (11, .t (.sl t.an 4 (t.acts.map tAct))), (12, .int (t.acts.map tAct).length), (13, .int i)])
    (fun _ => ⟨out, [(16, .box (cellsTask t))]⟩) (fun i => t.acts.length - i) 0 ⟨Nat.zero_le _, fun j _ h => by cases h⟩ ⟨rfl, rfl⟩ fun i hI => ?_
  refine And.intro (fun h1 => ?_) fun h1 => ?_
  rotate_left
  · have hi : t.acts.length ≤ i := ge_of_dec h1
    refine Exists.intro [] (ret_bool (List.all_eq_true.2 fun a ha => ?_ : addB t l = true) rfl)
    obtain ⟨j, hj, rfl⟩ := List.getElem_of_mem ha
    exact decide_eq_true (hI.2 j hj (by omega))
  have hi := lt_of_dec h1
  have hel := TK.effs _ (List.getElem_mem hi)
  refine And.intro (by omega) (Exists.intro _ (And.intro (get_map hi) ?_))
  refine LoopW.mk Nat (fun k => k ≤ l.length) (fun k => [(1, .t (.sl n1 1 (tLs l))), (6, .ptr (.cur 48) 0), (7, .int ((l.take k).countP (fun p => touchB t.acts[i] p.2))), (11, .t (.sl t.an 4 (t.acts.map tAct))), (12, .int (t.acts.map tAct).length), (13, .int i), (17, .t (.sl n1 1 (tLs l))), (18, .int (tLs l).length), (19, .int k)])
    (fun _ => ⟨out, [(16, .box (cellsTask t)), (48, .box (cellsAct t.acts[i]))]⟩) (fun k => l.length - k) 0 (Nat.zero_le _) ⟨rfl, rfl⟩ fun k hk0 => ?_
  have hcl : (l.take k).countP (fun p => touchB t.acts[i] p.2) ≤ k := Nat.le_trans List.countP_le_length (by rw [List.length_take]; omega)
  refine And.intro (fun h2 => ?_) fun h2 => ?_
  · have hk : k < l.length := by have h2 : (k : Int) < _ := of_decide_eq_true h2; rw [tLs_len] at h2; omega
    have stp := countP_take (q := fun p : Bool × List Int => touchB t.acts[i] p.2) hk
    refine And.intro (Int.natCast_nonneg _) (Exists.intro _ (And.intro (tLs_get hk) ?_))
    refine SpecP.mono (f54_spec t.acts[i] l[k].1 l[k].2 (by omega) _) ?_
    rintro _ _ ⟨rfl, rfl⟩
    refine And.intro (fun h3 => ?_) fun h3 => ?_
    · rw [if_pos h3] at stp
      refine And.intro (by omega) (And.intro (by omega) ?_)
      refine And.intro (by omega) (And.intro (by omega) ?_)
      refine Exists.intro (k + 1) (And.intro (by show l.length - (k + 1) < l.length - k; omega) (And.intro hk (And.intro ?_ rfl)))
      show _ = [(1, LV.t (.sl n1 1 (tLs l))), (6, .ptr (.cur 48) 0), (7, .int ((l.take (k + 1)).countP (fun p => touchB t.acts[i] p.2))), (11, .t (.sl t.an 4 (t.acts.map tAct))), (12, .int (t.acts.map tAct).length), (13, .int i), (17, .t (.sl n1 1 (tLs l))), (18, .int (tLs l).length), (19, .int (k + 1 : Nat))]
      rw [stp]; rfl
    · rw [if_neg (by rw [h3]; exact Bool.noConfusion), Nat.add_zero] at stp
      refine And.intro (by omega) (And.intro (by omega) ?_)
      refine Exists.intro (k + 1) (And.intro (by show l.length - (k + 1) < l.length - k; omega) (And.intro hk (And.intro ?_ rfl)))
      show _ = [(1, LV.t (.sl n1 1 (tLs l))), (6, .ptr (.cur 48) 0), (7, .int ((l.take (k + 1)).countP (fun p => touchB t.acts[i] p.2))), (11, .t (.sl t.an 4 (t.acts.map tAct))), (12, .int (t.acts.map tAct).length), (13, .int i), (17, .t (.sl n1 1 (tLs l))), (18, .int (tLs l).length), (19, .int (k + 1 : Nat))]
      rw [stp]; rfl
  · have hk : k = l.length := by have h2 : ¬ (k : Int) < _ := of_decide_eq_false h2; rw [tLs_len] at h2; omega
    subst hk
    rw [List.take_length] at hcl
    refine And.intro (fun h3 => ?_) fun h3 => ?_
    · have h3 : ((((l.take l.length).countP (fun p => touchB t.acts[i] p.2)) : Nat) : Int) > 1 := of_decide_eq_true h3
      rw [List.take_length] at h3
      refine Exists.intro [] (ret_bool ?_ rfl)
      refine all_false hi ?_
      rw [decide_eq_false_iff_not]; omega
    · have h3 : ¬ ((((l.take l.length).countP (fun p => touchB t.acts[i] p.2)) : Nat) : Int) > 1 := of_decide_eq_false h3
      rw [List.take_length] at h3
      refine And.intro (by omega) (And.intro (by omega) ?_)
      refine Exists.intro (i + 1) (And.intro (by show t.acts.length - (i + 1) < t.acts.length - i; omega) (And.intro ⟨hi, fun j hj hji => ?_⟩ (And.intro rfl rfl)))
      rcases Nat.lt_or_ge j i with h | h
      · exact hI.2 j hj h
      · have : j = i := by omega
        subst this; omega

end Go.Fw

/- What the reference's functions do: projections of states and literals. -/
namespace Go.Fw
open Go Go.Proofs
set_option maxRecDepth 10000

def pickF (q : Nat → Bool) (n : Nat) : List Int := ((List.range n).filter q).map Int.ofNat
theorem pickF_step (q : Nat → Bool) (n : Nat) : pickF q (n + 1) = pickF q n ++ if q n = true then [(n : Int)] else [] := by
  rw [pickF, List.range_succ, List.filter_append, List.map_append]
  cases h : q n <;> simp [h, pickF]
theorem pickF_len (q : Nat → Bool) (n : Nat) : (pickF q n).length ≤ n := by
  rw [pickF, List.length_map]; exact Nat.le_trans (List.length_filter_le ..) (by simp)
theorem inc_inj {l : List Int} (h : l.Pairwise (· < ·)) {i j : Nat} (hi : i < l.length) (hj : j < l.length) (he : l[i] = l[j]) : i = j := by
  rcases Nat.lt_trichotomy i j with h1 | h1 | h1
  · have := List.pairwise_iff_getElem.1 h i j hi hj h1; omega
  · exact h1
  · have := List.pairwise_iff_getElem.1 h j i hj hi h1; omega
/-- The places of a pattern that a state has. -/
def stL (p s : List Int) (n : Nat) : List Int := pickF (fun i => hasB s (p.getD i 0)) n
theorem stL_step (p s : List Int) (n : Nat) : stL p s (n + 1) = stL p s n ++ if hasB s (p.getD n 0) = true then [(n : Int)] else [] := pickF_step ..
theorem stL_len (p s : List Int) (n : Nat) : (stL p s n).length ≤ n := pickF_len ..
theorem stL_facts {p s : List Int} {n m : Int} (hp : risingB p n = true) (hs : risingB s m = true) : stL p s p.length = factsL p s := by
  have hpi := rising_inc hp
  refine inc_ext ?_ (rising_inc (facts_rising hpi hs)) fun x => ?_
  · rw [stL, pickF, List.pairwise_map]
    exact (List.pairwise_lt_range.filter _).imp fun h => Int.ofNat_lt.2 h
  · rw [stL, pickF, factsL, List.mem_map, List.mem_map]
    constructor
    · rintro ⟨i, hi, rfl⟩
      obtain ⟨h1, h2⟩ := List.mem_filter.1 hi
      have h1 := List.mem_range.1 h1
      have hg : p[i]? = some p[i] := List.getElem?_eq_getElem h1
      rw [List.getD_eq_getElem?_getD, hg, Option.getD_some] at h2
      have hin : hasB p p[i] = true := hasB_mem.2 (List.getElem_mem h1)
      refine ⟨p[i], List.mem_filter.2 ⟨hasB_mem.1 h2, hin⟩, ?_⟩
      have h3 := posI_get hin
      have h4 := posI_in hin
      obtain ⟨h5, h6⟩ := List.getElem?_eq_some_iff.1 h3
      have h7 : (posI p p[i]).toNat = i := inc_inj hpi h5 h1 h6
      show posI p p[i] = (i : Int)
      omega
    · rintro ⟨y, hy, rfl⟩
      obtain ⟨h1, h2⟩ := List.mem_filter.1 hy
      have h3 := posI_get h2
      have h4 := posI_in h2
      refine ⟨(posI p y).toNat, List.mem_filter.2 ⟨List.mem_range.2 (by omega), ?_⟩, Int.toNat_of_nonneg h4.1⟩
      rw [List.getD_eq_getElem?_getD, h3, Option.getD_some]
      exact hasB_mem.2 h1

def kq20 : Kp := [(3, ([1, 5, 8, 9, 10], [168]))]
theorem f20_spec (n1 n2 : Bool) (p s : List Int) (hl : p.length ≤ 1000000000) (out : List Fr) :
    SpecP Try.prog 20 [.ints n1 p, .ints n2 s] out fun r ro => r = .ints (stL p s p.length).isEmpty (stL p s p.length) ∧ ro = [] := by
  refine SpecP.close (Post := fun r ro => r = accV 168 1 ((stL p s p.length).map tI) ∧ ro = accO 168 3 1 ((stL p s p.length).map tI)) ?_ ?_
  rotate_left
  · rintro r ro ⟨rfl, rfl⟩
    refine ⟨_, acc_cls (e := 3) fun x r h => by rw [h]; exact look_cons .. |>.trans (if_pos rfl), ?_, rfl⟩
    rw [show ((stL p s p.length).map tI).isEmpty = (stL p s p.length).isEmpty by cases stL p s p.length <;> rfl]
  refine spec_body cx_ok kq20 [] (fn := Try.f20) (by kernel_rfl) rfl (by kernel_rfl) rfl (by unfold FnOK; kernel_rfl) fun hok => ?_
  refine LoopW.mk (Nat × List Int) (fun u => u.1 ≤ p.length ∧ u.2 = stL p s u.1) (fun u => [(1, .ints n2 s), (5, accV 168 1 (u.2.map tI)), (8, .ints n1 p), (9, .int (p.map tI).length), (10, .int u.1)])
    (fun u => ⟨out, accO 168 3 1 (u.2.map tI)⟩) (fun u => p.length - u.1) (0, []) ⟨Nat.zero_le _, rfl⟩ ⟨rfl, rfl⟩ ?_
  rintro ⟨i, L⟩ ⟨hi0, hL⟩
  simp only at hi0 hL
  have hLl : L.length ≤ 1000000000 := by rw [hL]; have := stL_len p s i; omega
  cases L
  case' nil => let O : List Int := []
  case' cons y r => let O : List Int := y :: r
  all_goals
    refine And.intro (fun h1 => ?_) fun h1 => ?_
    rotate_left
    · have hi : i = p.length := by have := ge_of_dec h1; have : i ≤ p.length := hi0; omega
      have hL' : O = stL p s p.length := by rw [← hi]; exact hL
      rw [← hL']
      exact Exists.intro [168] ⟨rfl, rfl⟩
    have hi := lt_of_dec h1
    have stp := stL_step p s i
    rw [← hL, List.getD_eq_getElem?_getD, List.getElem?_eq_getElem hi, Option.getD_some] at stp
    refine And.intro (by omega) (Exists.intro _ (And.intro (get_map hi) ?_))
    refine SpecP.mono (f44_spec n2 s p[i] _) ?_
    rintro _ _ ⟨rfl, rfl⟩
    refine And.intro (fun h2 => ?_) fun h2 => ?_
    · rw [if_pos h2] at stp
      have hl4 : ∀ X : List T, ((O.map tI) ++ [X]).length ≤ 1000000001 := fun X => by
        have : O.length ≤ 1000000000 := hLl
        rw [List.length_append, List.length_map, List.length_singleton]; omega
      repeat first
        | refine And.intro (Nat.le_of_ble_eq_true rfl) ?_
        | refine And.intro rfl ?_
        | refine And.intro (Nat.le_trans (Nat.mul_le_mul_right _ (hl4 _)) (Nat.le_of_ble_eq_true rfl)) ?_
        | refine And.intro (Nat.le_trans (hl4 _) (Nat.le_of_ble_eq_true rfl)) ?_
      refine And.intro (by show (-9223372036854775808 : Int) ≤ (i : Int) + 1; omega) (And.intro (by show (i : Int) + 1 ≤ 9223372036854775807; omega) ?_)
      first
        | exact Exists.intro (i + 1, [(i : Int)]) (And.intro (by show p.length - (i + 1) < p.length - i; omega) (And.intro ⟨hi, stp.symm⟩ (And.intro rfl rfl)))
        | (refine Exists.intro (i + 1, y :: (r ++ [(i : Int)])) (And.intro (by show p.length - (i + 1) < p.length - i; omega) (And.intro ⟨hi, stp.symm⟩ ?_))
           have e : (r ++ [(i : Int)]).map tI = r.map tI ++ [tI (i : Int)] := by simp
           simp only [List.map_cons, e]
           exact And.intro rfl rfl)
    · rw [if_neg (by simp [h2]), List.append_nil] at stp
      refine And.intro (by show (-9223372036854775808 : Int) ≤ (i : Int) + 1; omega) (And.intro (by show (i : Int) + 1 ≤ 9223372036854775807; omega) ?_)
      exact Exists.intro (i + 1, O) (And.intro (by show p.length - (i + 1) < p.length - i; omega) (And.intro ⟨hi, stp.symm⟩ (And.intro rfl rfl)))

end Go.Fw

/- What the reference's functions do: literals of a pattern. -/
namespace Go.Fw
open Go Go.Proofs
set_option maxRecDepth 10000

/-- The literal at a pattern's place, if it has been met. -/
def metL (p : List Int) (x : Lit) (j : Nat) : List Lit := if hasB (p.take j) x.fact = true then [⟨posI p x.fact, x.neg⟩] else []
theorem metL_hit {p : List Int} {x : Lit} {j : Nat} (hp : p.Pairwise (· < ·)) (hj : j < p.length) (h : p[j] = x.fact) : metL p x j = [] ∧ metL p x (j + 1) = [⟨(j : Int), x.neg⟩] := by
  have h1 : hasB (p.take j) x.fact = false := by
    cases hb : hasB (p.take j) x.fact with
    | false => rfl
    | true =>
      obtain ⟨k, hk, he⟩ := List.getElem_of_mem (hasB_mem.1 hb)
      rw [List.length_take] at hk
      rw [List.getElem_take, ← h] at he
      have := inc_inj hp (by omega) hj he
      omega
  have h2 : hasB p x.fact = true := hasB_mem.2 (by rw [← h]; exact List.getElem_mem hj)
  have h3 := posI_in h2
  obtain ⟨h4, h5⟩ := List.getElem?_eq_some_iff.1 (posI_get h2)
  have h6 := inc_inj hp h4 hj (by rw [h5, h])
  refine ⟨by rw [metL, h1]; rfl, ?_⟩
  rw [metL, List.take_add_one, List.getElem?_eq_getElem hj, Option.toList_some, hasB_snoc, h, beq_self_eq_true, Bool.or_true, if_pos rfl, show posI p x.fact = (j : Int) by omega]
theorem metL_miss {p : List Int} {x : Lit} {j : Nat} (hj : j < p.length) (h : p[j] ≠ x.fact) : metL p x (j + 1) = metL p x j := by
  rw [metL, metL, List.take_add_one, List.getElem?_eq_getElem hj, Option.toList_some, hasB_snoc, show (p[j] == x.fact) = false by simpa using h, Bool.or_false]
theorem metL_all (p : List Int) (l : List Lit) {i : Nat} (hi : i < l.length) : litsL p (l.take i) ++ metL p l[i] p.length = litsL p (l.take (i + 1)) := by
  rw [litsL_step hi, metL, List.take_length]
theorem metL_len (p : List Int) (x : Lit) (j : Nat) : (metL p x j).length ≤ 1 := by
  unfold metL; split <;> simp

def kq43 : Kp := [(3, ([0, 5, 10, 11, 12], [264])), (6, ([0, 5, 7, 10, 11, 12, 16, 17, 18], [56, 264]))]
theorem f43o_spec (n1 n2 : Bool) (p : List Int) (l : List Lit) {n : Int} (hp : risingB p n = true) (hpl : p.length ≤ 1000000000) (hl : l.length ≤ 1000000000) (out : List Fr) :
    SpecP Try.prog 43 [.ints n1 p, .lits n2 l] out fun r ro => r = accV 264 2 ((litsL p l).map tLit) ∧ ro = accO 264 32 2 ((litsL p l).map tLit) := by
  have hpi := rising_inc hp
  refine spec_body cx_ok kq43 [] (fn := Try.f43) (by kernel_rfl) rfl (by kernel_rfl) rfl (by unfold FnOK; kernel_rfl) fun hok => ?_
  refine LoopW.mk (Nat × List Lit) (fun u => u.1 ≤ l.length ∧ u.2 = litsL p (l.take u.1)) (fun u => [(0, .ints n1 p), (5, accV 264 2 (u.2.map tLit)), (10, .lits n2 l), (11, .int (l.map tLit).length), (12, .int u.1)])
    (fun u => ⟨out, accO 264 32 2 (u.2.map tLit)⟩) (fun u => l.length - u.1) (0, []) ⟨Nat.zero_le _, rfl⟩ ⟨rfl, rfl⟩ ?_
  rintro ⟨i, L⟩ ⟨hi0, hL⟩
  simp only at hi0 hL
  have hLl : L.length ≤ 1000000000 := by rw [hL]; have := litsL_len p (l.take i); rw [List.length_take] at this; omega
  cases L
  case' nil => let O : List Lit := []
  case' cons y r => let O : List Lit := y :: r
  all_goals
    have hO : O = litsL p (l.take i) := hL
    have hOl : O.length ≤ 1000000000 := hLl
    refine And.intro (fun h1 => ?_) fun h1 => ?_
    rotate_left
    · have hi : i = l.length := by have := ge_of_dec h1; have : i ≤ l.length := hi0; omega
      rw [hi, List.take_length] at hL
      have hL' : O = litsL p l := hL
      rw [← hL']
      exact Exists.intro [264] ⟨rfl, rfl⟩
    have hi := lt_of_dec h1
    have mall := metL_all p l hi
    rw [← hO] at mall
    refine And.intro (by omega) (Exists.intro _ (And.intro (get_map hi) ?_))
    refine LoopW.mk (Nat × List Lit) (fun u => u.1 ≤ p.length ∧ u.2 = O ++ metL p l[i] u.1) (fun u => [(0, .ints n1 p), (5, accV 264 2 (u.2.map tLit)), (7, .ptr (.cur 56) 0), (10, .lits n2 l), (11, .int (l.map tLit).length), (12, .int i), (16, .ints n1 p), (17, .int (p.map tI).length), (18, .int u.1)])
      (fun u => ⟨out, (56, .box [.int l[i].fact, .bool l[i].neg]) :: accO 264 32 2 (u.2.map tLit)⟩) (fun u => p.length - u.1) (0, O) ⟨Nat.zero_le _, by rw [metL]; simp [hasB]⟩ ⟨rfl, rfl⟩ ?_
    rintro ⟨j, N⟩ ⟨hj0, hN⟩
    simp only at hj0 hN
    have hNl : N.length ≤ 1000000001 := by rw [hN, List.length_append]; have := metL_len p l[i] j; omega
    cases N
    case' nil => let M : List Lit := []
    case' cons z s => let M : List Lit := z :: s
    all_goals
      have hM : M = O ++ metL p l[i] j := hN
      refine And.intro (fun h2 => ?_) fun h2 => ?_
      rotate_left
      · have hj : j = p.length := by have := ge_of_dec h2; have : j ≤ p.length := hj0; omega
        rw [hj, mall] at hM
        refine And.intro (by omega) (And.intro (by omega) ?_)
        exact Exists.intro (i + 1, M) (And.intro (by show l.length - (i + 1) < l.length - i; omega) (And.intro ⟨hi, hM⟩ (And.intro rfl rfl)))
      have hj := lt_of_dec h2
      refine And.intro (by omega) (Exists.intro _ (And.intro (get_map hj) ?_))
      refine And.intro (fun h3 => ?_) fun h3 => ?_
      · have h3 : p[j] = l[i].fact := by simpa using h3
        obtain ⟨g1, g2⟩ := metL_hit hpi hj h3
        have stp : M ++ [⟨(j : Int), l[i].neg⟩] = O ++ metL p l[i] (j + 1) := by rw [hM, g1, g2, List.append_nil]
        have hl4 : ∀ X : List T, ((M.map tLit) ++ [X]).length ≤ 1000000002 := fun X => by
          have : M.length ≤ 1000000001 := hNl
          rw [List.length_append, List.length_map, List.length_singleton]; omega
        refine And.intro (fun h4 => ?_) fun h4 => ?_
        case' refine_1 => let b : Bool := true
        case' refine_2 => let b : Bool := false
        all_goals
          replace h4 : l[i].neg = b := h4
          rw [h4] at stp
          repeat first
            | refine And.intro (Nat.le_of_ble_eq_true rfl) ?_
            | refine And.intro rfl ?_
            | refine And.intro (Nat.le_trans (Nat.mul_le_mul_right _ (hl4 _)) (Nat.le_of_ble_eq_true rfl)) ?_
            | refine And.intro (Nat.le_trans (hl4 _) (Nat.le_of_ble_eq_true rfl)) ?_
          refine And.intro (by show (-9223372036854775808 : Int) ≤ (j : Int) + 1; omega) (And.intro (by show (j : Int) + 1 ≤ 9223372036854775807; omega) ?_)
          first
            | exact Exists.intro (j + 1, [(⟨(j : Int), b⟩ : Lit)]) (And.intro (by show p.length - (j + 1) < p.length - j; omega) (And.intro ⟨hj, stp⟩ (And.intro rfl rfl)))
            | (refine Exists.intro (j + 1, z :: (s ++ [(⟨(j : Int), b⟩ : Lit)])) (And.intro (by show p.length - (j + 1) < p.length - j; omega) (And.intro ⟨hj, stp⟩ ?_))
               have e : (s ++ [(⟨(j : Int), b⟩ : Lit)]).map tLit = s.map tLit ++ [tLit ⟨(j : Int), b⟩] := by simp
               simp only [List.map_cons, e]
               exact And.intro rfl rfl)
      · have h3 : p[j] ≠ l[i].fact := by simpa using h3
        refine And.intro (by show (-9223372036854775808 : Int) ≤ (j : Int) + 1; omega) (And.intro (by show (j : Int) + 1 ≤ 9223372036854775807; omega) ?_)
        exact Exists.intro (j + 1, M) (And.intro (by show p.length - (j + 1) < p.length - j; omega) (And.intro ⟨hj, by show M = O ++ metL p l[i] (j + 1); rw [metL_miss hj h3]; exact hM⟩ (And.intro rfl rfl)))


theorem f43_spec (n1 n2 : Bool) (p : List Int) (l : List Lit) {n : Int} (hp : risingB p n = true) (hpl : p.length ≤ 1000000000) (hl : l.length ≤ 1000000000) (out : List Fr) :
    SpecP Try.prog 43 [.ints n1 p, .lits n2 l] out fun r ro => r = .lits (litsL p l).isEmpty (litsL p l) ∧ ro = [] :=
  (f43o_spec n1 n2 p l hp hpl hl out).close fun r ro h => by
    obtain ⟨rfl, rfl⟩ := h
    refine ⟨_, acc_cls (e := 32) fun x r h => by rw [h]; exact look_cons .. |>.trans (if_pos rfl), ?_, rfl⟩
    rw [show ((litsL p l).map tLit).isEmpty = (litsL p l).isEmpty by cases litsL p l <;> rfl]

end Go.Fw

/- What the reference's functions do: closed patterns. -/
namespace Go.Fw
open Go Go.Proofs
set_option maxRecDepth 10000

/-- A fact that a closed pattern would have to contain, too, or -1. -/
def MissR (t : Task) (M : List Int) (x : Int) : Prop := (x = -1 ∧ closedB t M = true) ∨ (∃ a ∈ t.acts, ∃ e ∈ a.effs, ∃ l ∈ e.when_, x = l.fact ∧ hasB M e.lit.fact = true ∧ hasB M l.fact = false)
theorem bool_get {b : List Bool} {x : Int} (h0 : 0 ≤ x) (h1 : x < (b.length : Int)) : (b.map tB)[x.toNat]? = some (tB (hasB (listL b) x)) := by
  obtain ⟨f, rfl⟩ : ∃ f : Nat, x = (f : Int) := ⟨x.toNat, by omega⟩
  have hl : f < b.length := by omega
  rw [hasB_listL, List.getD_eq_getElem?_getD, List.getElem?_map, Int.toNat_natCast, List.getElem?_eq_getElem hl]; rfl
def kq51 : Kp := [(2, ([1, 12, 13, 14], [])), (5, ([1, 12, 13, 14, 19, 20, 21], [])), (9, ([1, 12, 13, 14, 19, 20, 21, 33, 34, 35], []))]
theorem f51_spec (t : Task) (n1 : Bool) (b : List Bool) (TK : TaskOK t) (TL : TaskL t) (hb : b.length = t.facts.length) (out : List Fr) : SpecP Try.prog 51 [.task t, .bools n1 b] out fun r ro => (∃ x, MissR t (listL b) x ∧ r = .int x) ∧ ro = [] := by
  refine spec_body cx_ok kq51 [] (fn := Try.f51) (by kernel_rfl) rfl (by kernel_rfl) rfl (by unfold FnOK; kernel_rfl) fun hok => ?_
  have hA := TK.acts
  refine LoopW.mk Nat (fun i => i ≤ t.acts.length ∧ ∀ j (hj : j < t.acts.length), j < i → t.acts[j].effs.all (clE (listL b)) = true) (fun i => [(1, .bools n1 b), (12, .t (.sl t.an 4 (t.acts.map tAct))), (13, .int (t.acts.map tAct).length), (14, .int i)])
    (fun _ => ⟨out, []⟩) (fun i => t.acts.length - i) 0 ⟨Nat.zero_le _, fun j _ h => by cases h⟩ ⟨rfl, rfl⟩ fun i hI => ?_
  refine And.intro (fun h1 => ?_) fun h1 => ?_
  rotate_left
  · have hi : t.acts.length ≤ i := ge_of_dec h1
    refine Exists.intro [] ⟨⟨-1, .inl ⟨rfl, List.all_eq_true.2 fun a ha => ?_⟩, rfl⟩, rfl⟩
    obtain ⟨m, hm, rfl⟩ := List.getElem_of_mem ha
    exact hI.2 m hm (by omega)
  have hi := lt_of_dec h1
  have hai : t.acts[i] ∈ t.acts := List.getElem_mem hi
  have hel := TK.effs _ hai
  refine And.intro (by omega) (Exists.intro _ (And.intro (get_map hi) ?_))
  refine LoopW.mk Nat (fun k => k ≤ t.acts[i].effs.length ∧ ∀ j (hj : j < t.acts[i].effs.length), j < k → clE (listL b) t.acts[i].effs[j] = true) (fun k => [(1, .bools n1 b), (12, .t (.sl t.an 4 (t.acts.map tAct))), (13, .int (t.acts.map tAct).length), (14, .int i),
      (19, .t (.sl t.acts[i].en 3 (t.acts[i].effs.map tEff))), (20, .int (t.acts[i].effs.map tEff).length), (21, .int k)])
    (fun _ => ⟨out, []⟩) (fun k => t.acts[i].effs.length - k) 0 ⟨Nat.zero_le _, fun j _ h => by cases h⟩ ⟨rfl, rfl⟩ fun k hK => ?_
  refine And.intro (fun h2 => ?_) fun h2 => ?_
  rotate_left
  · have hk : t.acts[i].effs.length ≤ k := ge_of_dec h2
    refine And.intro (by omega) (And.intro (by omega) ?_)
    refine Exists.intro (i + 1) (And.intro (by show t.acts.length - (i + 1) < t.acts.length - i; omega) (And.intro ⟨hi, fun j hj hji => ?_⟩ (And.intro rfl rfl)))
    rcases Nat.lt_or_ge j i with h | h
    · exact hI.2 j hj h
    · have : j = i := by omega
      subst this
      refine List.all_eq_true.2 fun e he => ?_
      obtain ⟨m, hm, rfl⟩ := List.getElem_of_mem he
      exact hK.2 m hm (by omega)
  have hk := lt_of_dec h2
  have hek : t.acts[i].effs[k] ∈ t.acts[i].effs := List.getElem_mem hk
  have hlit := TK.lit _ hai _ hek
  have hwh := TK.whn _ hai _ hek
  have hwl := TL.whn _ hai _ hek
  have next : clE (listL b) t.acts[i].effs[k] = true → (k + 1 ≤ t.acts[i].effs.length ∧ ∀ j (hj : j < t.acts[i].effs.length), j < k + 1 → clE (listL b) t.acts[i].effs[j] = true) := fun hc => ⟨hk, fun j hj hjk => by
    rcases Nat.lt_or_ge j k with h | h
    · exact hK.2 j hj h
    · have : j = k := by omega
      subst this; exact hc⟩
  refine And.intro (by omega) (Exists.intro _ (And.intro (get_map hk) ?_))
  refine And.intro hlit.1 (Exists.intro _ (And.intro (bool_get hlit.1 (by rw [hb]; exact hlit.2)) ?_))
  refine And.intro (fun h3 => ?_) fun h3 => ?_
  rotate_left
  · have h3 : hasB (listL b) t.acts[i].effs[k].lit.fact = false := h3
    refine And.intro (by omega) (And.intro (by omega) ?_)
    exact Exists.intro (k + 1) (And.intro (by show t.acts[i].effs.length - (k + 1) < t.acts[i].effs.length - k; omega) (And.intro (next (clE_iff.2 fun h => by rw [h3] at h; cases h)) (And.intro rfl rfl)))
  have h3 : hasB (listL b) t.acts[i].effs[k].lit.fact = true := h3
  refine LoopW.mk Nat (fun w => w ≤ t.acts[i].effs[k].when_.length ∧ ∀ v (hv : v < t.acts[i].effs[k].when_.length), v < w → hasB (listL b) t.acts[i].effs[k].when_[v].fact = true) (fun w => [(1, .bools n1 b), (12, .t (.sl t.an 4 (t.acts.map tAct))), (13, .int (t.acts.map tAct).length), (14, .int i),
      (19, .t (.sl t.acts[i].en 3 (t.acts[i].effs.map tEff))), (20, .int (t.acts[i].effs.map tEff).length), (21, .int k),
      (33, .t (.sl t.acts[i].effs[k].nil 2 (t.acts[i].effs[k].when_.map tLit))), (34, .int (t.acts[i].effs[k].when_.map tLit).length), (35, .int w)])
    (fun _ => ⟨out, []⟩) (fun w => t.acts[i].effs[k].when_.length - w) 0 ⟨Nat.zero_le _, fun v _ h => by cases h⟩ ⟨rfl, rfl⟩ fun w hW => ?_
  refine And.intro (fun h4 => ?_) fun h4 => ?_
  rotate_left
  · have hw : t.acts[i].effs[k].when_.length ≤ w := ge_of_dec h4
    refine And.intro (by omega) (And.intro (by omega) ?_)
    refine Exists.intro (k + 1) (And.intro (by show t.acts[i].effs.length - (k + 1) < t.acts[i].effs.length - k; omega) (And.intro (next (clE_iff.2 fun _ l hl => ?_)) (And.intro rfl rfl)))
    obtain ⟨v, hv, rfl⟩ := List.getElem_of_mem hl
    exact hW.2 v hv (by omega)
  have hw := lt_of_dec h4
  have hwm : t.acts[i].effs[k].when_[w] ∈ t.acts[i].effs[k].when_ := List.getElem_mem hw
  have hlw := hwh _ hwm
  refine And.intro (by omega) (Exists.intro _ (And.intro (get_map hw) ?_))
  refine And.intro hlw.1 (Exists.intro _ (And.intro (bool_get hlw.1 (by rw [hb]; exact hlw.2)) ?_))
  refine And.intro (fun h5 => ?_) fun h5 => ?_
  · have h5 : hasB (listL b) t.acts[i].effs[k].when_[w].fact = true := h5
    refine And.intro (by omega) (And.intro (by omega) ?_)
    refine Exists.intro (w + 1) (And.intro (by show t.acts[i].effs[k].when_.length - (w + 1) < t.acts[i].effs[k].when_.length - w; omega) (And.intro ⟨hw, fun v hv hvw => ?_⟩ (And.intro rfl rfl)))
    rcases Nat.lt_or_ge v w with h | h
    · exact hW.2 v hv h
    · have : v = w := by omega
      subst this; exact h5
  · exact Exists.intro [] ⟨⟨_, .inr ⟨_, hai, _, hek, _, hwm, rfl, h3, h5⟩, rfl⟩, rfl⟩

theorem f53c_spec (n1 : Bool) (b : List Bool) (hb : b.length ≤ 1000000000) (out : List Fr) : SpecP Try.prog 53 [.bools n1 b] out fun r ro => r = .ints (listL b).isEmpty (listL b) ∧ ro = [] :=
  (f53_spec n1 b hb out).close fun r ro h => by
    obtain ⟨rfl, rfl⟩ := h
    refine ⟨_, acc_cls (e := 3) fun x r h => by rw [h]; exact look_cons .. |>.trans (if_pos rfl), ?_, rfl⟩
    rw [show ((listL b).map tI).isEmpty = (listL b).isEmpty by cases listL b <;> rfl]

theorem bits_has {n : Nat} {p : List Int} (hp : risingB p n = true) (x : Int) : hasB (listL (bitsL n p)) x = hasB p x := by
  by_cases h : x < 0
  · rw [Bool.eq_iff_iff]
    constructor
    · intro h1; have := listL_in _ x (hasB_mem.1 h1); omega
    · intro h1; have := rising_in hp x (hasB_mem.1 h1); omega
  obtain ⟨f, rfl⟩ : ∃ f : Nat, x = (f : Int) := ⟨x.toNat, by omega⟩
  rcases Nat.lt_or_ge f n with hf | hf
  · rw [hasB_listL, bits_get (rising_in hp) hf]
  · rw [Bool.eq_iff_iff]
    constructor
    · intro h1; have := listL_in _ _ (hasB_mem.1 h1); rw [bitsL_length] at this; omega
    · intro h1; have := rising_in hp _ (hasB_mem.1 h1); omega

theorem whole_row {b : List Bool} {n : Nat} (h : b.length = n) : b.map tB = ((b.map tB).drop 0).take n := by
  rw [List.drop_zero, List.take_of_length_le (by rw [List.length_map]; omega)]
def oq28 : Od := [(1, [(0, .pure), (1, .pure), (2, .pure), (3, .pure), (4, .pure), (5, .eff), (6, .eff), (7, .pure), (8, .pure)])]
theorem f28_spec (t : Task) (n1 : Bool) (p : List Int) (ht : isB t = true) (hp : risingB p t.facts.length = true) (out : List Fr) : SpecP Try.prog 28 [.task t, .ints n1 p] out fun r ro => r = .bool (closedB t p) ∧ ro = [] := by
  have TK := task_ok ht
  have hN := TK.facts
  refine spec_body cx_ok [] oq28 (fn := Try.f28) (by kernel_rfl) rfl (by kernel_rfl) rfl (by unfold FnOK; kernel_rfl) fun hok => ?_
  have hfl : (t.facts.map tS).length = t.facts.length := List.length_map ..
  refine SpecP.mono (f52_spec (t.facts.map tS).length n1 p (by omega) (by rw [hfl]; exact rising_in hp) []) ?_
  rintro _ _ ⟨rfl, rfl⟩
  refine And.intro ⟨rfl, rfl, rfl⟩ (Exists.intro ((bitsL (t.facts.map tS).length p).map tB) (And.intro (whole_row (bitsL_length ..)) (And.intro (by rw [List.length_map (f := tB), bitsL_length]; omega) ?_)))
  refine SpecP.mono (f51_spec t false (bitsL (t.facts.map tS).length p) TK (task_l ht) (by rw [bitsL_length, hfl]) _) ?_
  rintro _ _ ⟨⟨x, hx, rfl⟩, rfl⟩
  refine And.intro trivial (And.intro trivial (And.intro ⟨rfl, rfl, rfl⟩ ?_))
  rw [hfl] at hx
  have hc : closedB t (listL (bitsL t.facts.length p)) = closedB t p := closedB_congr (bits_has hp)
  refine And.intro (fun h => ?_) fun h => ?_
  · refine Exists.intro [] (ret_bool ?_ rfl)
    have h : x < 0 := of_decide_eq_true h
    rcases hx with ⟨_, h1⟩ | ⟨a, ha, e, he, l, hl, rfl, h2, h3⟩
    · rw [← hc]; exact h1
    · have := (TK.whn _ ha _ he _ hl).1; omega
  · refine Exists.intro [] (ret_bool ?_ rfl)
    have h : ¬ x < 0 := of_decide_eq_false h
    rcases hx with ⟨rfl, h1⟩ | ⟨a, ha, e, he, l, hl, rfl, h2, h3⟩
    · omega
    · rw [bits_has hp] at h2 h3
      cases hq : closedB t p with
      | false => rfl
      | true => 
        have := clE_iff.1 (List.all_eq_true.1 (List.all_eq_true.1 hq _ ha) _ he) h2 _ hl
        rw [h3] at this; cases this

theorem set_has {b : List Bool} {x : Int} (h0 : 0 ≤ x) (h1 : x < (b.length : Int)) (y : Int) : hasB (listL (b.set x.toNat true)) y = (hasB (listL b) y || x == y) := by
  by_cases h : y < 0
  · have e : ∀ c : List Bool, hasB (listL c) y = false := fun c => by
      cases hc : hasB (listL c) y with
      | false => rfl
      | true => have := listL_in _ y (hasB_mem.1 hc); omega
    rw [e, e, Bool.false_or]
    symm; simp; omega
  obtain ⟨f, rfl⟩ : ∃ f : Nat, y = (f : Int) := ⟨y.toNat, by omega⟩
  obtain ⟨g, rfl⟩ : ∃ g : Nat, x = (g : Int) := ⟨x.toNat, by omega⟩
  rw [hasB_listL, hasB_listL, List.getD_eq_getElem?_getD, List.getD_eq_getElem?_getD, Int.toNat_natCast, List.getElem?_set]
  by_cases hgf : g = f
  · subst hgf
    have : g < b.length := by omega
    simp [this]
  · rw [if_neg hgf]
    have : ((g : Int) == (f : Int)) = false := by simpa using fun h : (g : Int) = f => hgf (by omega)
    rw [this, Bool.or_false]
theorem count_set : ∀ {b : List Bool} {i : Nat}, b[i]? = some false → (b.set i true).count false < b.count false
  | [], i, h => by simp at h
  | c :: r, 0, h => by simp at h; subst h; simp
  | c :: r, i + 1, h => by
    have := count_set (b := r) (i := i) (by simpa using h)
    rw [List.set_cons_succ, List.count_cons, List.count_cons]; omega

def kq29 : Kp := [(3, ([2, 5, 6], [16, 89000339]))]
theorem f29_spec (t : Task) (n1 : Bool) (p : List Int) (ht : isB t = true) (hp : risingB p t.facts.length = true) (out : List Fr) : SpecP Try.prog 29 [.task t, .ints n1 p] out fun r ro => (∃ c, ClsOf t p c ∧ r = .ints c.isEmpty c) ∧ ro = [] := by
  refine SpecP.close (Post := fun r ro => ∃ σ c, ClsOf t p c ∧ r = accV σ 1 (c.map tI) ∧ ro = accO σ 3 1 (c.map tI)) ?_ ?_
  rotate_left
  · rintro r ro ⟨σ, c, hc, rfl, rfl⟩
    refine ⟨_, acc_cls (e := 3) fun x r h => by rw [h]; exact look_cons .. |>.trans (if_pos rfl), ⟨c, hc, ?_⟩, rfl⟩
    rw [show (c.map tI).isEmpty = c.isEmpty by cases c <;> rfl]
  have TK := task_ok ht
  have TL := task_l ht
  have hN := TK.facts
  refine spec_body cx_ok kq29 [] (fn := Try.f29) (by kernel_rfl) rfl (by kernel_rfl) rfl (by unfold FnOK; kernel_rfl) fun hok => ?_
  have hfl : (t.facts.map tS).length = t.facts.length := List.length_map ..
  refine SpecP.mono (f52_spec (t.facts.map tS).length n1 p (by omega) (by rw [hfl]; exact rising_in hp) []) ?_
  rintro _ _ ⟨rfl, rfl⟩
  refine Exists.intro ((bitsL (t.facts.map tS).length p).map tB) (And.intro (whole_row (bitsL_length ..)) (And.intro (by rw [List.length_map (f := tB), bitsL_length]; omega) ?_))
  refine SpecP.mono (f51_spec t false (bitsL (t.facts.map tS).length p) TK TL (by rw [bitsL_length, hfl]) _) ?_
  rintro _ _ ⟨⟨x0, hx0, rfl⟩, rfl⟩
  refine And.intro trivial (And.intro trivial ?_)
  rw [hfl] at hx0 ⊢
  refine LoopW.mk (List Bool × Int) (fun u => u.1.length = t.facts.length ∧ (∀ x, hasB p x = true → hasB (listL u.1) x = true) ∧ (∀ x, hasB (listL u.1) x = true → InCl t p x) ∧ MissR t (listL u.1) u.2) (fun u => [(2, .ptr (.cur 16) 0), (5, .osl (.cur 89000339) 1 0 t.facts.length), (6, .int u.2)])
    (fun u => ⟨out, [(16, .box (cellsTask t)), (89000339, .row 4 1 (u.1.map tB))]⟩) (fun u => u.1.count false) (bitsL t.facts.length p, x0) ⟨bitsL_length .., fun x h => by rw [bits_has hp]; exact h, fun x h => .base (by rw [← bits_has hp]; exact h), hx0⟩ ⟨rfl, rfl⟩ ?_
  rintro ⟨b, x⟩ ⟨hb, h1, h2, h3⟩
  simp only at hb h1 h2 h3
  refine And.intro (fun h4 => ?_) fun h4 => ?_
  · have h4 : x ≥ 0 := of_decide_eq_true h4
    rcases h3 with ⟨rfl, _⟩ | ⟨a, ha, e, he, l, hl, rfl, h5, h6⟩
    · omega
    have hlw := TK.whn _ ha _ he _ hl
    have hin : InCl t p l.fact := .step ha he hl (h2 _ h5)
    have hxl : l.fact < (b.length : Int) := by rw [hb]; exact hlw.2
    have hsl : (b.set l.fact.toNat true).length = t.facts.length := by rw [List.length_set]; exact hb
    refine And.intro hlw.1 (And.intro hlw.2 ?_)
    refine Exists.intro (tB (hasB (listL b) l.fact)) (And.intro (by rw [Nat.zero_add]; exact bool_get hlw.1 hxl) (And.intro (Nat.le_refl 1) ?_))
    have he : (b.map tB).set (0 + l.fact.toNat) (tB true) = (b.set l.fact.toNat true).map tB := by rw [Nat.zero_add, map_set']
    refine Exists.intro ((b.set l.fact.toNat true).map tB) (And.intro (by show _ = List.take t.facts.length (List.drop 0 ((b.map tB).set (0 + l.fact.toNat) (tB true))); rw [he]; exact whole_row hsl) (And.intro (by show 0 + t.facts.length ≤ ((b.map tB).set (0 + l.fact.toNat) (tB true)).length; rw [he, List.length_map, hsl]; omega) ?_))
    refine SpecP.mono (f51_spec t false (b.set l.fact.toNat true) TK TL hsl _) ?_
    rintro _ _ ⟨⟨x1, hx1, rfl⟩, rfl⟩
    refine And.intro trivial (And.intro trivial ?_)
    have hg : b[l.fact.toNat]? = some false := by
      have := hasB_listL b l.fact.toNat
      rw [Int.toNat_of_nonneg hlw.1, h6, List.getD_eq_getElem?_getD, List.getElem?_eq_getElem (by omega)] at this
      rw [List.getElem?_eq_getElem (by omega)]
      rw [Option.getD_some] at this
      rw [← this]
    refine Exists.intro (b.set l.fact.toNat true, x1) (And.intro (count_set hg) (And.intro ⟨hsl, fun y hy => ?_, fun y hy => ?_, hx1⟩ (And.intro rfl ?_)))
    · show hasB (listL (b.set l.fact.toNat true)) y = true
      rw [set_has hlw.1 hxl, h1 y hy]; rfl
    · have hy : hasB (listL (b.set l.fact.toNat true)) y = true := hy
      rw [set_has hlw.1 hxl, Bool.or_eq_true, beq_iff_eq] at hy
      rcases hy with hy | rfl
      · exact h2 y hy
      · exact hin
    · show (⟨out, [(16, .box (cellsTask t)), (89000339, .row 4 1 ((b.map tB).set (0 + l.fact.toNat) (tB true)))]⟩ : St) = _
      rw [he]
  · have h4 : ¬ x ≥ 0 := of_decide_eq_false h4
    rcases h3 with ⟨rfl, hc⟩ | ⟨a, ha, e, he, l, hl, rfl, h5, h6⟩
    · have hcl : ClsOf t p (listL b) := by
        refine ⟨listL_inc b, fun y => ?_⟩
        rw [← hasB_mem]
        exact ClM.whole ⟨h1, h2, inc_nodup (listL_inc b)⟩ hc y
      refine Exists.intro (b.map tB) (And.intro (whole_row hb) (And.intro (by show 0 + t.facts.length ≤ (b.map tB).length; rw [List.length_map, hb]; omega) ?_))
      have m53 := f53_spec false b (by omega)
      generalize listL b = L at m53 hcl
      refine SpecP.mono (m53 _) ?_
      rintro _ _ ⟨rfl, rfl⟩
      cases L with
      | nil =>
        refine And.intro trivial (And.intro trivial ?_)
        exact Exists.intro [193000715] ⟨193000715, _, hcl, rfl, rfl⟩
      | cons x r =>
        refine And.intro trivial (And.intro ⟨flat_ints (b := x :: r), trivial⟩ ?_)
        exact Exists.intro [193000715] ⟨193000715, _, hcl, rfl, rfl⟩
    · have := (TK.whn _ ha _ he _ hl).1; omega

end Go.Fw

/- How many states there are; the example of the laws. -/
namespace Go.Fw
open Go Go.Proofs
set_option maxRecDepth 10000

/-! ### Few states -/
def subsR : Nat → List (List Int)
  | 0 => [[]]
  | n + 1 => subsR n ++ (subsR n).map fun l => l ++ [(n : Int)]
theorem subsR_len : ∀ n, (subsR n).length = 2 ^ n
  | 0 => rfl
  | n + 1 => by rw [subsR, List.length_append, List.length_map, subsR_len n, Nat.pow_succ]; omega
theorem subsR_mem : ∀ (n : Nat) (l : List Int), l.Pairwise (· < ·) → (∀ x ∈ l, 0 ≤ x ∧ x < (n : Int)) → l ∈ subsR n
  | 0, l, _, h => by
    cases l with
    | nil => exact List.mem_cons_self ..
    | cons x r => have := h x (List.mem_cons_self ..); omega
  | n + 1, l, hi, h => by
    rw [subsR, List.mem_append]
    rcases List.eq_nil_or_concat l with rfl | ⟨l', x, rfl⟩
    · exact .inl (subsR_mem n [] .nil fun x hx => by cases hx)
    rw [List.concat_eq_append] at hi h ⊢
    obtain ⟨h1, _, h3⟩ := List.pairwise_append.1 hi
    have hx := h x (by simp)
    have hl : ∀ y ∈ l', 0 ≤ y ∧ y < x := fun y hy => ⟨(h y (by simp [hy])).1, h3 y hy x (by simp)⟩
    by_cases hxn : x = (n : Int)
    · right
      subst hxn
      exact List.mem_map.2 ⟨l', subsR_mem n l' h1 hl, rfl⟩
    · left
      refine subsR_mem n _ hi fun y hy => ?_
      rcases List.mem_append.1 hy with hy | hy
      · have := hl y hy; omega
      · simp at hy; subst hy; omega
theorem rising_many {S : List (List Int)} {n : Nat} (hS : S.Nodup) (hr : ∀ s ∈ S, risingB s n = true) : S.length ≤ 2 ^ n := by
  rw [← subsR_len]
  exact Dij.nodup_sub hS fun s hs => subsR_mem n s (rising_inc (hr s hs)) (rising_in (hr s hs))
theorem way_rising {u : Task} {s s' : List Int} {d : Int} (hs : risingB s u.facts.length = true) (p : Way u s d s') : risingB s' u.facts.length = true := by
  induction p with
  | nil => exact hs
  | cons he _ ih => exact ih (succ_rising _ he)
/-- With few facts there are not too many states. -/
theorem OptR.small {u : Task} {s : List Int} {r : LV} (hs : risingB s u.facts.length = true) (hn : u.facts.length ≤ 14) (h : OptR u s r) :
    (r = .tup [.int 0, .int 4] ∧ ∀ s' d, Way u s d s' → holdsB s' u.goal = false) ∨ ∃ c : Int, 0 ≤ c ∧ c ≤ 2000000000 ∧ Dij.Opt (succ u) (fun x => holdsB x u.goal) s c ∧ r = .tup [.int c, .int 0] := by
  cases h with
  | space S hS hr hl =>
    have h1 := rising_many hS fun x hx => by obtain ⟨d, p⟩ := hr x hx; exact way_rising hs p
    have h2 := Nat.pow_le_pow_right (show 0 < 2 by decide) hn
    have : 2 ^ 14 = 16384 := rfl
    omega
  | none S hW hl hg => exact .inl ⟨rfl, fun s' d p => hg s' (hW.mem p)⟩
  | ok S hW hl c h0 hb hc => exact .inr ⟨c, h0, hb, hc, rfl⟩

/-! ### The example -/
def sHere : ByteArray := ⟨#[104, 101, 114, 101]⟩
def sThere : ByteArray := ⟨#[116, 104, 101, 114, 101]⟩
def sGo : ByteArray := ⟨#[103, 111]⟩
def exAct : Actn := ⟨sGo, 2, false, [⟨0, false⟩], false, [⟨true, [], ⟨0, true⟩⟩, ⟨true, [], ⟨1, false⟩⟩]⟩
def exTask : Task := ⟨false, [sHere, sThere], false, [0], false, [⟨1, false⟩], false, [exAct]⟩
/-- The action, as the program builds it. -/
def exActT : List T := [.v (.string sGo), .v (.int .i64 2), .sl false 2 [tLit ⟨0, false⟩], .sl false 3 [[.sl true 0 [], .v (.int .i64 0), .v (.bool true)], [.sl true 0 [], .v (.int .i64 1), .v (.bool false)]]]
theorem f31_spec (out : List Fr) : SpecP Try.prog 31 [] out fun r ro => r = .task exTask ∧ ro = [] := by
  refine SpecP.close (Post := fun r ro => r = .agg [.osl (.cur 80) 1 0 2, .osl (.cur 88) 1 0 1, .osl (.cur 104) 2 0 1, .osl (.cur 120) 4 0 1] ∧
    ro = [(80, .row 9 1 [tS sHere, tS sThere]), (88, .row 3 1 [tI 0]), (104, .row 32 2 [tLit ⟨1, false⟩]), (120, .row 37 4 [exActT])]) ?_ ?_
  · refine spec_body cx_ok [] [] (fn := Try.f31) (by kernel_rfl) rfl (by kernel_rfl) rfl (by unfold FnOK; kernel_rfl) fun hok => ?_
    refine And.intro (Nat.le_of_ble_eq_true rfl) (And.intro (Nat.le_of_ble_eq_true rfl) ?_)
    exact Exists.intro [80, 88, 104, 120] (And.intro rfl rfl)
  · rintro r ro ⟨rfl, rfl⟩
    refine ⟨.task exTask, .agg _ [.t (.sl false 1 [tS sHere, tS sThere]), .t (.sl false 1 [tI 0]), .t (.sl false 2 [tLit ⟨1, false⟩]), .t (.sl false 4 [tAct exAct])] rfl fun i x y hx hy => ?_, rfl, rfl⟩
    match i with
    | 0 => simp at hx hy; subst hx hy; exact .row 80 9 1 0 2 [tS sHere, tS sThere] rfl (Nat.le_refl 2)
    | 1 => simp at hx hy; subst hx hy; exact .row 88 3 1 0 1 [tI 0] rfl (Nat.le_refl 1)
    | 2 => simp at hx hy; subst hx hy; exact .row 104 32 2 0 1 [tLit ⟨1, false⟩] rfl (Nat.le_refl 1)
    | 3 => simp at hx hy; subst hx hy; exact .trans _ _ _ (.row 120 37 4 0 1 [exActT] rfl (Nat.le_refl 1)) (.un _ _ rfl)
    | i + 4 => simp at hx

theorem ex_is : isB exTask = true := by decide
theorem ex_given : ∀ l ∈ [[(false, [1])], [(false, [0])], [(false, [0]), (false, [1])]], givenI exTask [0] l = 0 := by decide
theorem ex_way {u : Task} (hc : ∀ a ∈ u.acts, a.cost = 2) {s s' : List Int} {d : Int} (p : Way u s d s') : (s' = s ∧ d = 0) ∨ 2 ≤ d := by
  have h0 : ∀ x, ∀ e ∈ succ u x, e.1 = 2 := fun x e he => by
    obtain ⟨a, ha, rfl⟩ := List.mem_map.1 he
    exact hc a (List.mem_filter.1 ha).1
  have hn : ∀ x, ∀ e ∈ succ u x, 0 ≤ e.1 := fun x e he => by rw [h0 x e he]; decide
  cases p with
  | nil => exact .inl ⟨rfl, rfl⟩
  | cons he p =>
    have h1 := h0 _ _ he
    have h2 := p.nonneg hn
    right
    simp only at h1
    omega
/-- What the patterns of the example say. -/
theorem ex_says1 {r : LV} (h : OptR (projT exTask [1]) (factsL [1] [0]) r) : r = .tup [.int 2, .int 0] := by
  have hf : factsL [1] [0] = [] := by decide
  rw [hf] at h
  have hp : Way (projT exTask [1]) [] (2 + 0) [0] := .cons (s' := [0]) (by decide) (.nil _)
  rcases h.small (by decide) (by decide) with ⟨_, h1⟩ | ⟨c, h0, _, ⟨⟨s', hg, p⟩, hm⟩, rfl⟩
  · exact absurd (h1 _ _ hp) (by decide)
  · have h1 := hm _ _ (by decide) hp
    rcases ex_way (by decide) p with ⟨rfl, _⟩ | h2
    · exact absurd hg (by decide)
    · rw [show c = 2 by omega]
theorem ex_says0 {r : LV} (h : OptR (projT exTask [0]) (factsL [0] [0]) r) : r = .tup [.int 0, .int 0] := by
  have hf : factsL [0] [0] = [0] := by decide
  rw [hf] at h
  rcases h.small (by decide) (by decide) with ⟨_, h1⟩ | ⟨c, h0, _, ⟨_, hm⟩, rfl⟩
  · exact absurd (h1 _ _ (.nil _)) (by decide)
  · have h1 := hm _ _ (by decide) (.nil _)
    rw [show c = 0 by omega]

end Go.Fw

/- What the laws look at first: the example comes out right. -/
namespace Go.Fw
open Go Go.Proofs
set_option maxRecDepth 10000

theorem ex_cost1 {r : LV} (h : CostR exTask false [1] [0] r) : r = .tup [.int 2, .int 0] := by
  cases h with
  | bad h => exact absurd (ex_given _ (by simp)) h
  | ok _ r hr => exact ex_says1 hr
theorem ex_cost0 {r : LV} (h : CostR exTask false [0] [0] r) : r = .tup [.int 0, .int 0] := by
  cases h with
  | bad h => exact absurd (ex_given _ (by simp)) h
  | ok _ r hr => exact ex_says0 hr
theorem ex_best {r : LV} (h : BestR exTask [0] [(false, [0]), (false, [1])] r) : r = .tup [.int 2, .int 0] := by
  cases h with
  | bad h => exact absurd (ex_given _ (by simp)) h
  | space _ p hp hr =>
    simp only [List.mem_cons, List.not_mem_nil, or_false] at hp
    rcases hp with rfl | rfl
    · have := ex_says0 hr; cases this
    · have := ex_says1 hr; cases this
  | none _ p hp hr =>
    simp only [List.mem_cons, List.not_mem_nil, or_false] at hp
    rcases hp with rfl | rfl
    · have := ex_says0 hr; cases this
    · have := ex_says1 hr; cases this
  | ok _ C hl hC =>
    match C, hl with
    | [a, b], _ =>
      have h0 := ex_says0 (hC 0 a _ rfl rfl)
      have h1 := ex_says1 (hC 1 b _ rfl rfl)
      cases h0
      cases h1
      rw [if_neg (show ¬ addB exTask [(false, [0]), (false, [1])] = true by decide)]
      rfl

theorem f7_spec (out : List Fr) : SpecP Try.prog 7 [] out fun r ro => r = .bool true ∧ ro = [] := by
  refine spec_body cx_ok [] [] (fn := Try.f7) (by kernel_rfl) rfl (by kernel_rfl) rfl (by unfold FnOK; kernel_rfl) fun hok => ?_
  refine SpecP.mono (f31_spec []) ?_
  rintro _ _ ⟨rfl, rfl⟩
  refine Exists.intro [tI 1] (And.intro rfl (And.intro (Nat.le_of_ble_eq_true rfl) ?_))
  refine Exists.intro [tI 0] (And.intro rfl (And.intro (Nat.le_of_ble_eq_true rfl) ?_))
  refine SpecP.mono (f9_spec exTask false false [1] [0] _) ?_
  rintro _ _ ⟨hr, rfl⟩
  have := ex_cost1 hr
  subst this
  clear hr
  refine And.intro ⟨trivial, trivial, trivial⟩ (And.intro trivial ?_)
  refine Exists.intro [tI 0] (And.intro rfl (And.intro (Nat.le_of_ble_eq_true rfl) ?_))
  refine Exists.intro [tI 0] (And.intro rfl (And.intro (Nat.le_of_ble_eq_true rfl) ?_))
  refine SpecP.mono (f9_spec exTask false false [0] [0] _) ?_
  rintro _ _ ⟨hr, rfl⟩
  have := ex_cost0 hr
  subst this
  clear hr
  refine And.intro ⟨trivial, trivial, trivial⟩ (And.intro trivial ?_)
  refine And.intro (Nat.le_of_ble_eq_true rfl) (And.intro (Nat.le_of_ble_eq_true rfl) ?_)
  refine Exists.intro (tLs [(false, [0]), (false, [1])]) (And.intro rfl (And.intro (Nat.le_of_ble_eq_true rfl) ?_))
  refine Exists.intro [tI 0] (And.intro rfl (And.intro (Nat.le_of_ble_eq_true rfl) ?_))
  refine SpecP.mono (f23_spec exTask false false [(false, [0]), (false, [1])] [0] (by decide) _) ?_
  rintro _ _ ⟨hr, rfl⟩
  have := ex_best hr
  subst this
  clear hr
  refine And.intro ⟨trivial, trivial, trivial⟩ (And.intro trivial ?_)
  refine And.intro (fun _ => ?_) fun h => Bool.noConfusion h
  refine And.intro (fun _ => ?_) fun h => Bool.noConfusion h
  refine And.intro (fun _ => ?_) fun h => Bool.noConfusion h
  refine And.intro (fun _ => ?_) fun h => Bool.noConfusion h
  refine And.intro (fun _ => ?_) fun h => Bool.noConfusion h
  refine And.intro (fun _ => ?_) fun h => Bool.noConfusion h
  exact Exists.intro [] (ret_bool rfl rfl)

end Go.Fw

/- Texts that lead to the law, part 9. -/
import Derived.Test.YtkelfldopopgcaaGreatZH
import Derived.Test.YtkelfldopopgcaaGreatZF

/- What the program's functions do: sets, places, keys; closed patterns. -/
namespace Go.Fw
open Go Go.Proofs
set_option maxRecDepth 10000

def kq50 : Kp := [(3, ([3, 7, 8, 9], [48]))]
theorem f78_spec (n1 : Bool) (p : List Int) (out : List Fr) : SpecP Tryz.prog 78 [.ints n1 p] out fun r ro => ∃ M : List Int, (∀ x, hasB M x = hasB p x) ∧ M.Nodup ∧ r = .mpr (.cur 48) ∧ ro = [(48, .mp (.int .i64) (kvI M))] := by
  refine spec_body cx_ok kq50 [] (fn := Tryz.f78) (by kernel_rfl) rfl (by kernel_rfl) rfl (by unfold FnOK; kernel_rfl) fun hok => ?_
  have hmx := le_max hok.1.1
  refine LoopW.mk (Nat × List Int) (fun u => u.1 ≤ p.length ∧ (∀ x, hasB u.2 x = hasB (p.take u.1) x) ∧ u.2.Nodup) (fun u => [(3, .mpr (.cur 48)), (7, .ints n1 p), (8, .int (p.map tI).length), (9, .int u.1)])
    (fun u => ⟨out, [(48, .mp (.int .i64) (kvI u.2))]⟩) (fun u => p.length - u.1) (0, []) ⟨Nat.zero_le _, fun _ => rfl, .nil⟩ ⟨rfl, rfl⟩ ?_
  rintro ⟨i, M⟩ ⟨hi0, hM, hMn⟩
  simp only at hi0 hM hMn
  refine And.intro (fun h1 => ?_) fun h1 => ?_
  · have hi := lt_of_dec h1
    obtain ⟨m, g1, g2, g3, _⟩ := upd_kvN p[i] hMn
    refine And.intro (by omega) (Exists.intro _ (And.intro (get_map hi) ?_))
    refine And.intro (by omega) (And.intro (by omega) ?_)
    refine Exists.intro (i + 1, m) (And.intro (by show p.length - (i + 1) < p.length - i; omega) (And.intro ⟨hi, fun x => ?_, g3⟩ (And.intro rfl ?_)))
    · show hasB m x = hasB (p.take (i + 1)) x
      rw [g2, hM, List.take_add_one, List.getElem?_eq_getElem hi, Option.toList_some, hasB_snoc]
    · show (⟨out, [(48, .mp (.int .i64) (updKV (.int .i64 p[i]) (.v (.bool true)) (kvI M)))]⟩ : St) = _
      rw [g1]
  · have hi : i = p.length := by have := ge_of_dec h1; omega
    subst hi
    rw [List.take_length] at hM
    exact Exists.intro [48] ⟨M, hM, hMn, rfl, rfl⟩

def kq36 : Kp := [(3, ([3, 7, 8, 9], [48]))]
theorem f28_spec (n1 : Bool) (p : List Int) (hp : p.Nodup) (out : List Fr) : SpecP Tryz.prog 28 [.ints n1 p] out fun r ro => r = .mpr (.cur 48) ∧ ro = [(48, .mp (.int .i64) (kvP p))] := by
  refine spec_body cx_ok kq36 [] (fn := Tryz.f28) (by kernel_rfl) rfl (by kernel_rfl) rfl (by unfold FnOK; kernel_rfl) fun hok => ?_
  have hmx := le_max hok.1.1
  refine LoopW.mk (Nat × List Int) (fun u => u.1 ≤ p.length ∧ u.2 = p.take u.1) (fun u => [(3, .mpr (.cur 48)), (7, .ints n1 p), (8, .int (p.map tI).length), (9, .int u.1)])
    (fun u => ⟨out, [(48, .mp (.int .i64) (kvP u.2))]⟩) (fun u => p.length - u.1) (0, []) ⟨Nat.zero_le _, rfl⟩ ⟨rfl, rfl⟩ ?_
  rintro ⟨i, L⟩ ⟨hi0, hL⟩
  simp only at hi0 hL
  refine And.intro (fun h1 => ?_) fun h1 => ?_
  · have hi := lt_of_dec h1
    refine And.intro (by omega) (Exists.intro _ (And.intro (get_map hi) ?_))
    refine And.intro (by omega) (And.intro (by omega) ?_)
    refine Exists.intro (i + 1, L ++ [p[i]]) (And.intro (by show p.length - (i + 1) < p.length - i; omega) (And.intro ⟨hi, ?_⟩ (And.intro rfl ?_)))
    · show L ++ [p[i]] = p.take (i + 1)
      rw [hL, List.take_add_one, List.getElem?_eq_getElem hi]; rfl
    show (⟨out, [(48, .mp (.int .i64) (updKV (.int .i64 p[i]) (.v (.int .i64 (i : Int))) (kvP L)))]⟩ : St) = _
    have hnot : p[i] ∉ L := fun hm => by
      rw [hL] at hm
      obtain ⟨j, hj, he⟩ := List.getElem_of_mem hm
      have hj2 : j < i := by rw [List.length_take] at hj; omega
      rw [List.getElem_take] at he
      exact absurd he (List.pairwise_iff_getElem.1 hp j i (by omega) hi hj2)
    have := upd_kvP hnot
    rw [show L.length = i by rw [hL, List.length_take]; omega] at this
    rw [this]
  · have hi : i = p.length := by have := ge_of_dec h1; omega
    subst hi
    rw [List.take_length] at hL
    subst hL
    exact Exists.intro [48] ⟨rfl, rfl⟩

/-! ### Facts and literals of a pattern -/
def factsL (p l : List Int) : List Int := (l.filter (hasB p)).map (posI p)
def litsL (p : List Int) (l : List Lit) : List Lit := (l.filter fun x => hasB p x.fact).map fun x => ⟨posI p x.fact, x.neg⟩
theorem factsL_step {p l : List Int} {i : Nat} (hi : i < l.length) : factsL p (l.take (i + 1)) = factsL p (l.take i) ++ if hasB p l[i] = true then [posI p l[i]] else [] := by
  simp only [factsL, filter_step hi, List.map_append]
  split <;> simp
theorem factsL_len (p l : List Int) : (factsL p l).length ≤ l.length := by simp [factsL, filter_len]
theorem litsL_step {p : List Int} {l : List Lit} {i : Nat} (hi : i < l.length) : litsL p (l.take (i + 1)) = litsL p (l.take i) ++ if hasB p l[i].fact = true then [⟨posI p l[i].fact, l[i].neg⟩] else [] := by
  rw [litsL, List.take_add_one, List.getElem?_eq_getElem hi, Option.toList_some, List.filter_append, List.map_append]
  simp only [litsL]
  cases h : hasB p l[i].fact <;> simp [h]
theorem litsL_len (p : List Int) (l : List Lit) : (litsL p l).length ≤ l.length := by
  rw [litsL, List.length_map]; exact List.length_filter_le ..

def kq35 : Kp := [(3, ([1, 5, 10, 11, 12], [208]))]
theorem f27_spec (n1 : Bool) (p l : List Int) (fr : Fr) (q : Nat) (hq : look fr q = some (.mp (.int .i64) (kvP p))) (hl : l.length ≤ 1000000000) (out : List Fr) :
    SpecP Tryz.prog 27 [.ints n1 l, .mpr (.fr 0 q)] (fr :: out) fun r ro => r = .ints (factsL p l).isEmpty (factsL p l) ∧ ro = [] := by
  refine SpecP.close (Post := fun r ro => r = accV 208 1 ((factsL p l).map tI) ∧ ro = accO 208 3 1 ((factsL p l).map tI)) ?_ ?_
  rotate_left
  · rintro r ro ⟨rfl, rfl⟩
    refine ⟨_, acc_cls (e := 3) fun x r h => by rw [h]; exact look_cons .. |>.trans (if_pos rfl), ?_, rfl⟩
    rw [show ((factsL p l).map tI).isEmpty = (factsL p l).isEmpty by cases factsL p l <;> rfl]
  refine spec_body cx_ok kq35 [] (fn := Tryz.f27) (by kernel_rfl) rfl (by kernel_rfl) rfl (by unfold FnOK; kernel_rfl) fun hok => ?_
  refine LoopW.mk (Nat × List Int) (fun u => u.1 ≤ l.length ∧ u.2 = factsL p (l.take u.1)) (fun u => [(1, .mpr (.fr 0 q)), (5, accV 208 1 (u.2.map tI)), (10, .ints n1 l), (11, .int (l.map tI).length), (12, .int u.1)])
    (fun u => ⟨fr :: out, accO 208 3 1 (u.2.map tI)⟩) (fun u => l.length - u.1) (0, []) ⟨Nat.zero_le _, rfl⟩ ⟨rfl, rfl⟩ ?_
  rintro ⟨i, L⟩ ⟨hi0, hL⟩
  simp only at hi0 hL
  have hLl : L.length ≤ 1000000000 := by rw [hL]; have := factsL_len p (l.take i); rw [List.length_take] at this; omega
  cases L
  case' nil => let O : List Int := []
  case' cons y r => let O : List Int := y :: r
  all_goals
    refine And.intro (fun h1 => ?_) fun h1 => ?_
    rotate_left
    · have hi : i = l.length := by have := ge_of_dec h1; have : i ≤ l.length := hi0; omega
      rw [hi, List.take_length] at hL
      have hL' : O = factsL p l := hL
      rw [← hL']
      exact Exists.intro [208] ⟨rfl, rfl⟩
    have hi := lt_of_dec h1
    have stp := factsL_step (p := p) hi
    rw [← hL] at stp
    refine And.intro (by omega) (Exists.intro _ (And.intro (get_map hi) ?_))
    refine Exists.intro _ (And.intro (St.get_fr (fr := fr) rfl hq) ?_)
    refine Exists.intro _ (Exists.intro _ (And.intro (look_kvP p l[i]) (And.intro (has_kvP p l[i]) ?_)))
    refine And.intro (fun h2 => ?_) fun h2 => ?_
    · rw [if_pos h2] at stp
      have hl4 : ∀ X : List T, ((O.map tI) ++ [X]).length ≤ 1000000001 := fun X => by
        have : O.length ≤ 1000000000 := hLl
        rw [List.length_append, List.length_map, List.length_singleton]; omega
      repeat first
        | refine And.intro (Nat.le_of_ble_eq_true rfl) ?_
        | refine And.intro rfl ?_
        | refine And.intro (Nat.le_trans (Nat.mul_le_mul_right _ (hl4 _)) (Nat.le_of_ble_eq_true rfl)) ?_
        | refine And.intro (Nat.le_trans (hl4 _) (Nat.le_of_ble_eq_true rfl)) ?_
      refine And.intro (by show (-9223372036854775808 : Int) ≤ (i : Int) + 1; omega) (And.intro (by show (i : Int) + 1 ≤ 9223372036854775807; omega) ?_)
      first
        | exact Exists.intro (i + 1, [posI p l[i]]) (And.intro (by show l.length - (i + 1) < l.length - i; omega) (And.intro ⟨hi, stp.symm⟩ (And.intro rfl rfl)))
        | (refine Exists.intro (i + 1, y :: (r ++ [posI p l[i]])) (And.intro (by show l.length - (i + 1) < l.length - i; omega) (And.intro ⟨hi, stp.symm⟩ ?_))
           have e : (r ++ [posI p l[i]]).map tI = r.map tI ++ [tI (posI p l[i])] := by simp
           simp only [List.map_cons, e]
           exact And.intro rfl rfl)
    · rw [if_neg (by simp [h2]), List.append_nil] at stp
      refine And.intro (by show (-9223372036854775808 : Int) ≤ (i : Int) + 1; omega) (And.intro (by show (i : Int) + 1 ≤ 9223372036854775807; omega) ?_)
      exact Exists.intro (i + 1, O) (And.intro (by show l.length - (i + 1) < l.length - i; omega) (And.intro ⟨hi, stp.symm⟩ (And.intro rfl rfl)))

def kq62 : Kp := [(3, ([1, 5, 10, 11, 12], [240]))]
theorem f53_spec (n1 : Bool) (p : List Int) (l : List Lit) (fr : Fr) (q : Nat) (hq : look fr q = some (.mp (.int .i64) (kvP p))) (hl : l.length ≤ 1000000000) (out : List Fr) :
    SpecP Tryz.prog 53 [.lits n1 l, .mpr (.fr 0 q)] (fr :: out) fun r ro => r = .lits (litsL p l).isEmpty (litsL p l) ∧ ro = [] := by
  refine SpecP.close (Post := fun r ro => r = accV 240 2 ((litsL p l).map tLit) ∧ ro = accO 240 55 2 ((litsL p l).map tLit)) ?_ ?_
  rotate_left
  · rintro r ro ⟨rfl, rfl⟩
    refine ⟨_, acc_cls (e := 55) fun x r h => by rw [h]; exact look_cons .. |>.trans (if_pos rfl), ?_, rfl⟩
    rw [show ((litsL p l).map tLit).isEmpty = (litsL p l).isEmpty by cases litsL p l <;> rfl]
  refine spec_body cx_ok kq62 [] (fn := Tryz.f53) (by kernel_rfl) rfl (by kernel_rfl) rfl (by unfold FnOK; kernel_rfl) fun hok => ?_
  refine LoopW.mk (Nat × List Lit) (fun u => u.1 ≤ l.length ∧ u.2 = litsL p (l.take u.1)) (fun u => [(1, .mpr (.fr 0 q)), (5, accV 240 2 (u.2.map tLit)), (10, .lits n1 l), (11, .int (l.map tLit).length), (12, .int u.1)])
    (fun u => ⟨fr :: out, accO 240 55 2 (u.2.map tLit)⟩) (fun u => l.length - u.1) (0, []) ⟨Nat.zero_le _, rfl⟩ ⟨rfl, rfl⟩ ?_
  rintro ⟨i, L⟩ ⟨hi0, hL⟩
  simp only at hi0 hL
  have hLl : L.length ≤ 1000000000 := by rw [hL]; have := litsL_len p (l.take i); rw [List.length_take] at this; omega
  cases L
  case' nil => let O : List Lit := []
  case' cons y r => let O : List Lit := y :: r
  all_goals
    refine And.intro (fun h1 => ?_) fun h1 => ?_
    rotate_left
    · have hi : i = l.length := by have := ge_of_dec h1; have : i ≤ l.length := hi0; omega
      rw [hi, List.take_length] at hL
      have hL' : O = litsL p l := hL
      rw [← hL']
      exact Exists.intro [240] ⟨rfl, rfl⟩
    have hi := lt_of_dec h1
    have stp := litsL_step (p := p) hi
    rw [← hL] at stp
    refine And.intro (by omega) (Exists.intro _ (And.intro (get_map hi) ?_))
    refine Exists.intro _ (And.intro (St.get_fr (fr := fr) rfl hq) ?_)
    refine Exists.intro _ (Exists.intro _ (And.intro (look_kvP p l[i].fact) (And.intro (has_kvP p l[i].fact) ?_)))
    refine And.intro (fun h2 => ?_) fun h2 => ?_
    · rw [if_pos h2] at stp
      have hl4 : ∀ X : List T, ((O.map tLit) ++ [X]).length ≤ 1000000001 := fun X => by
        have : O.length ≤ 1000000000 := hLl
        rw [List.length_append, List.length_map, List.length_singleton]; omega
      refine And.intro (fun h3 => ?_) fun h3 => ?_
      case' refine_1 => let b : Bool := true
      case' refine_2 => let b : Bool := false
      all_goals
        replace h3 : l[i].neg = b := h3
        rw [h3] at stp
        repeat first
          | refine And.intro (Nat.le_of_ble_eq_true rfl) ?_
          | refine And.intro rfl ?_
          | refine And.intro (Nat.le_trans (Nat.mul_le_mul_right _ (hl4 _)) (Nat.le_of_ble_eq_true rfl)) ?_
          | refine And.intro (Nat.le_trans (hl4 _) (Nat.le_of_ble_eq_true rfl)) ?_
        refine And.intro (by show (-9223372036854775808 : Int) ≤ (i : Int) + 1; omega) (And.intro (by show (i : Int) + 1 ≤ 9223372036854775807; omega) ?_)
        first
          | exact Exists.intro (i + 1, [(⟨posI p l[i].fact, b⟩ : Lit)]) (And.intro (by show l.length - (i + 1) < l.length - i; omega) (And.intro ⟨hi, stp.symm⟩ (And.intro rfl rfl)))
          | (refine Exists.intro (i + 1, y :: (r ++ [(⟨posI p l[i].fact, b⟩ : Lit)])) (And.intro (by show l.length - (i + 1) < l.length - i; omega) (And.intro ⟨hi, stp.symm⟩ ?_))
             have e : (r ++ [(⟨posI p l[i].fact, b⟩ : Lit)]).map tLit = r.map tLit ++ [tLit ⟨posI p l[i].fact, b⟩] := by simp
             simp only [List.map_cons, e]
             exact And.intro rfl rfl)
    · rw [if_neg (by simp [h2]), List.append_nil] at stp
      refine And.intro (by show (-9223372036854775808 : Int) ≤ (i : Int) + 1; omega) (And.intro (by show (i : Int) + 1 ≤ 9223372036854775807; omega) ?_)
      exact Exists.intro (i + 1, O) (And.intro (by show l.length - (i + 1) < l.length - i; omega) (And.intro ⟨hi, stp.symm⟩ (And.intro rfl rfl)))

/-! ### Keys -/
def tU (n : Int) : List T := [.v (.int .u8 n)]
theorem nums_tU : ∀ l : List Int, numsOf (l.map tU) = some l
  | [] => rfl
  | x :: r => by simp only [List.map_cons, tU, numsOf]; rw [nums_tU r]
def kq56 : Kp := [(3, ([3, 6, 7, 8], [128]))]
theorem f47_spec (n1 : Bool) (l : List Int) (hl : ∀ x ∈ l, 0 ≤ x ∧ x ≤ 255) (hn : l.length ≤ 1000000000) (out : List Fr) : SpecP Tryz.prog 47 [.ints n1 l] out fun r ro => r = .t (.v (.string (strOfNums l))) ∧ ro = [] := by
  refine spec_body cx_ok kq56 [] (fn := Tryz.f47) (by kernel_rfl) rfl (by kernel_rfl) rfl (by unfold FnOK; kernel_rfl) fun hok => ?_
  refine LoopW.mk (Nat × List Int) (fun u => u.1 ≤ l.length ∧ u.2 = l.take u.1) (fun u => [(3, accV 128 1 (u.2.map tU)), (6, .ints n1 l), (7, .int (l.map tI).length), (8, .int u.1)])
    (fun u => ⟨out, accO 128 5 1 (u.2.map tU)⟩) (fun u => l.length - u.1) (0, []) ⟨Nat.zero_le _, rfl⟩ ⟨rfl, rfl⟩ ?_
  rintro ⟨i, L⟩ ⟨hi0, hL⟩
  simp only at hi0 hL
  have hLl : L.length ≤ 1000000000 := by rw [hL, List.length_take]; omega
  cases L
  case' nil => let O : List Int := []
  case' cons y r => let O : List Int := y :: r
  all_goals
    refine And.intro (fun h1 => ?_) fun h1 => ?_
    rotate_left
    · have hi : i = l.length := by have := ge_of_dec h1; have : i ≤ l.length := hi0; omega
      rw [hi, List.take_length] at hL
      have hL' : O = l := hL
      rw [← hL']
      first
        | exact Exists.intro [] (And.intro rfl (Exists.intro [] ⟨rfl, rfl⟩))
        | (refine And.intro (by simp) (Exists.intro O (And.intro ?_ (Exists.intro [] ⟨rfl, rfl⟩)))
           show numsOf ((((y :: r).map tU).drop 0).take ((y :: r).map tU).length) = some (y :: r)
           rw [← take_all, nums_tU])
    have hi := lt_of_dec h1
    have hx := hl _ (List.getElem_mem hi)
    have stp : l.take (i + 1) = l.take i ++ [l[i]] := by rw [List.take_add_one, List.getElem?_eq_getElem hi]; rfl
    rw [← hL] at stp
    refine And.intro (by omega) (Exists.intro _ (And.intro (get_map hi) ?_))
    refine And.intro hx.1 (And.intro hx.2 ?_)
    have hl4 : ∀ X : List T, ((O.map tU) ++ [X]).length ≤ 1000000001 := fun X => by
      have : O.length ≤ 1000000000 := hLl
      rw [List.length_append, List.length_map, List.length_singleton]; omega
    repeat first
      | refine And.intro (Nat.le_of_ble_eq_true rfl) ?_
      | refine And.intro rfl ?_
      | refine And.intro (Nat.le_trans (Nat.mul_le_mul_right _ (hl4 _)) (Nat.le_of_ble_eq_true rfl)) ?_
      | refine And.intro (Nat.le_trans (hl4 _) (Nat.le_of_ble_eq_true rfl)) ?_
    refine And.intro (by show (-9223372036854775808 : Int) ≤ (i : Int) + 1; omega) (And.intro (by show (i : Int) + 1 ≤ 9223372036854775807; omega) ?_)
    first
      | exact Exists.intro (i + 1, [l[i]]) (And.intro (by show l.length - (i + 1) < l.length - i; omega) (And.intro ⟨hi, stp.symm⟩ (And.intro rfl rfl)))
      | (refine Exists.intro (i + 1, y :: (r ++ [l[i]])) (And.intro (by show l.length - (i + 1) < l.length - i; omega) (And.intro ⟨hi, stp.symm⟩ ?_))
         have e : (r ++ [l[i]]).map tU = r.map tU ++ [tU l[i]] := by simp
         simp only [List.map_cons, e]
         exact And.intro rfl rfl)

end Go.Fw

/- What the program's functions do: closed patterns, and what is asked of patterns. -/
namespace Go.Fw
open Go Go.Proofs
set_option maxRecDepth 10000

abbrev cellsAct (a : Actn) : List LV := [.t (.v (.string a.name)), .t (.v (.int .i64 a.cost)), .t (.sl a.pn 2 (a.pre.map tLit)), .t (.sl a.en 3 (a.effs.map tEff))]
abbrev cellsEff (e : Eff) : List LV := [.t (.sl e.nil 2 (e.when_.map tLit)), .t (.v (.int .i64 e.lit.fact)), .t (.v (.bool e.lit.neg))]
abbrev LV.mapK (k : K) : LV := .mpr k

theorem f88_spec (x : Lit) (M : List Int) (q : Nat) (fr0 fr1 fr2 fr3 : Fr) (h2 : look fr2 24 = some (.box [.mpr (.fr 0 q)])) (h3 : look fr3 q = some (.mp (.int .i64) (kvI M))) (out : List Fr) :
    SpecP Tryz.prog 88 [.lit x, .ptr (.fr 2 24) 0] (fr0 :: fr1 :: fr2 :: fr3 :: out) fun r ro => r = .bool (!hasB M x.fact) ∧ ro = [] := by
  refine spec_body cx_ok [] [] (fn := Tryz.f88) (by kernel_rfl) rfl (by kernel_rfl) rfl (by unfold FnOK; kernel_rfl) fun hok => ?_
  refine Exists.intro _ (And.intro (St.get_fr (fr := fr2) rfl h2) ?_)
  refine Exists.intro _ (And.intro (St.get_fr (fr := fr3) rfl h3) ?_)
  refine Exists.intro _ (And.intro (look_kvI _ _) ?_)
  refine And.intro (fun h => ?_) fun h => ?_
  · exact Exists.intro [] (ret_bool (by rw [h]) rfl)
  · exact Exists.intro [] (ret_bool (by rw [h]) rfl)

/-- Is nothing asked of other facts? -/
def clE (p : List Int) (e : Eff) : Bool := !(hasB p e.lit.fact && e.when_.any fun l => !hasB p l.fact)
def closedB (t : Task) (p : List Int) : Bool := t.acts.all fun a => a.effs.all (clE p)
theorem closedB_congr {t : Task} {p q : List Int} (h : ∀ x, hasB p x = hasB q x) : closedB t p = closedB t q := by
  have e : clE p = clE q := by funext e; simp only [clE, h]
  simp only [closedB, e]

def kq49 : Kp := [(2, ([3, 10, 11, 12], [16, 24])), (5, ([3, 10, 11, 12, 17, 18, 19], [16, 24]))]
theorem f77_spec (t : Task) (M : List Int) (q : Nat) (fr : Fr) (h : look fr q = some (.mp (.int .i64) (kvI M))) (out : List Fr) :
    SpecP Tryz.prog 77 [.task t, .mpr (.fr 0 q)] (fr :: out) fun r ro => r = .bool (closedB t M) ∧ ro = [] := by
  refine spec_body cx_ok kq49 [] (fn := Tryz.f77) (by kernel_rfl) rfl (by kernel_rfl) rfl (by unfold FnOK; kernel_rfl) fun hok => ?_
  have hmx := le_max hok.1.2.2.2.1.1
  refine LoopW.mk Nat (fun i => i ≤ t.acts.length ∧ ∀ j (hj : j < t.acts.length), j < i → t.acts[j].effs.all (clE M) = true) (fun i => [(3, .ptr (.cur 24) 0), (10, .t (.sl t.an 4 (t.acts.map tAct))), (11, .int (t.acts.map tAct).length), (12, .int i)])
    (fun _ => ⟨fr :: out, [(16, .box (cellsTask t)), (24, .box [.mpr (.fr 0 q)])]⟩) (fun i => t.acts.length - i) 0 ⟨Nat.zero_le _, fun j _ h => by omega⟩ ⟨rfl, rfl⟩ fun i hI => ?_
  refine And.intro (fun h1 => ?_) fun h1 => ?_
  · have hi := lt_of_dec h1
    refine And.intro (by omega) (Exists.intro _ (And.intro (get_map hi) ?_))
    refine LoopW.mk Nat (fun k => k ≤ t.acts[i].effs.length ∧ ∀ j (hj : j < t.acts[i].effs.length), j < k → clE M t.acts[i].effs[j] = true) (fun k => [(3, .ptr (.cur 24) 0), (10, .t (.sl t.an 4 (t.acts.map tAct))), (11, .int (t.acts.map tAct).length), (12, .int i),
        (17, .t (.sl t.acts[i].en 3 (t.acts[i].effs.map tEff))), (18, .int (t.acts[i].effs.map tEff).length), (19, .int k)])
      (fun _ => ⟨fr :: out, [(16, .box (cellsTask t)), (24, .box [.mpr (.fr 0 q)])]⟩) (fun k => t.acts[i].effs.length - k) 0 ⟨Nat.zero_le _, fun j _ h => by omega⟩ ⟨rfl, rfl⟩ fun k hK => ?_
    refine And.intro (fun h2 => ?_) fun h2 => ?_
    · have hk := lt_of_dec h2
      have hmx2 : t.acts[i].effs.length ≤ maxLen := by
        have := okEs_iff.1 hok.1.2.2.2.1.2 _ (List.mem_map_of_mem (List.getElem_mem hi)) _ (show T.sl t.acts[i].en 3 (t.acts[i].effs.map tEff) ∈ tAct t.acts[i] by simp [tAct])
        have := this.1
        rwa [List.length_map] at this
      have hmx2 : (t.acts[i].effs.length : Int) ≤ 9223372036854775807 := by unfold maxLen at hmx2; omega
      have next : clE M t.acts[i].effs[k] = true → (k + 1 ≤ t.acts[i].effs.length ∧ ∀ j (hj : j < t.acts[i].effs.length), j < k + 1 → clE M t.acts[i].effs[j] = true) := fun hc => ⟨hk, fun j hj hjk => by
        rcases Nat.lt_or_ge j k with h | h
        · exact hK.2 j hj h
        · have : j = k := by omega
          subst this; exact hc⟩
      refine And.intro (by omega) (Exists.intro _ (And.intro (get_map hk) ?_))
      refine Exists.intro _ (And.intro (St.get_fr (fr := fr) rfl h) ?_)
      refine Exists.intro _ (And.intro (look_kvI _ _) ?_)
      refine And.intro (fun h3 => ?_) fun h3 => ?_
      · refine SpecP.mono (f68_spec t.acts[i].effs[k].nil t.acts[i].effs[k].when_ 88 0 24 (fun l => !hasB M l.fact) _ (fun x _ => f88_spec x M q [] [] _ fr rfl h out)) ?_
        rintro _ _ ⟨rfl, rfl⟩
        refine And.intro trivial (And.intro trivial ?_)
        refine And.intro (fun h4 => ?_) fun h4 => ?_
        · refine Exists.intro [] (ret_bool ?_ rfl)
          have : closedB t M ≠ true := fun hc => by
            have := List.all_eq_true.1 (List.all_eq_true.1 hc _ (List.getElem_mem hi)) _ (List.getElem_mem hk)
            simp only [clE, h3, h4] at this
            exact Bool.noConfusion this
          cases hc : closedB t M
          · rfl
          · exact absurd hc this
        · refine And.intro (by omega) (And.intro (by omega) ?_)
          exact Exists.intro (k + 1) (And.intro (by show t.acts[i].effs.length - (k + 1) < t.acts[i].effs.length - k; omega) (And.intro (next (by simp only [clE, h3, h4]; rfl)) (And.intro rfl rfl)))
      · refine And.intro (by omega) (And.intro (by omega) ?_)
        exact Exists.intro (k + 1) (And.intro (by show t.acts[i].effs.length - (k + 1) < t.acts[i].effs.length - k; omega) (And.intro (next (by simp only [clE, h3]; rfl)) (And.intro rfl rfl)))
    · have hk : t.acts[i].effs.length ≤ k := ge_of_dec h2
      refine And.intro (by omega) (And.intro (by omega) ?_)
      refine Exists.intro (i + 1) (And.intro (by show t.acts.length - (i + 1) < t.acts.length - i; omega) (And.intro ⟨hi, fun j hj hji => ?_⟩ (And.intro rfl rfl)))
      rcases Nat.lt_or_ge j i with h | h
      · exact hI.2 j hj h
      · have : j = i := by omega
        subst this
        refine List.all_eq_true.2 fun e he => ?_
        obtain ⟨m, hm, rfl⟩ := List.getElem_of_mem he
        exact hK.2 m hm (by omega)
  · have hi : t.acts.length ≤ i := ge_of_dec h1
    refine Exists.intro [] (ret_bool ?_ rfl)
    refine (List.all_eq_true.2 fun a ha => ?_ : closedB t M = true)
    obtain ⟨m, hm, rfl⟩ := List.getElem_of_mem ha
    exact hI.2 m hm (by omega)

def fineB (t : Task) (w : Bool) (p : List Int) : Bool := risingB p t.facts.length && (!w || closedB t p)
def oq66 : Od := [(1, [(0, .pure), (1, .pure), (2, .pure), (3, .pure), (4, .eff), (5, .pure), (6, .pure), (7, .pure), (8, .pure), (9, .pure), (10, .pure), (11, .eff), (12, .eff), (13, .pure), (14, .pure), (15, .pure)])]
theorem f62_spec (t : Task) (n1 : Bool) (p : List Int) (w : Bool) (out : List Fr) : SpecP Tryz.prog 62 [.task t, .ints n1 p, .bool w] out fun r ro => r = .bool (fineB t w p) ∧ ro = [] := by
  refine spec_body cx_ok [] oq66 (fn := Tryz.f62) (by kernel_rfl) rfl (by kernel_rfl) rfl (by unfold FnOK; kernel_rfl) fun hok => ?_
  cases w
  case' true => let w : Bool := true
  case' false => let w : Bool := false
  all_goals
    refine SpecP.mono (f66_spec n1 p (t.facts.map tS).length []) ?_
    rintro _ _ ⟨rfl, rfl⟩
    rw [List.length_map]
    refine And.intro ⟨rfl, rfl, rfl⟩ ?_
    refine And.intro (fun h => ?_) fun h => ?_
  · exact Exists.intro [] (ret_bool (by simp [fineB, h]) rfl)
  · exact Exists.intro [] (ret_bool (by simp [fineB, h]) rfl)
  · refine SpecP.mono (f78_spec n1 p []) ?_
    rintro _ _ ⟨M, hM, hMn, rfl, rfl⟩
    refine And.intro ⟨rfl, rfl, rfl⟩ ?_
    refine SpecP.mono (f77_spec t M (pl 144 48) _ rfl _) ?_
    rintro _ _ ⟨rfl, rfl⟩
    refine And.intro ⟨rfl, rfl, rfl⟩ ?_
    rw [closedB_congr hM]
    refine And.intro (fun h2 => ?_) fun h2 => ?_
    · exact Exists.intro [] (ret_bool (by simp [fineB, h, h2]) rfl)
    · exact Exists.intro [] (ret_bool (by simp [fineB, h, h2]) rfl)
  · exact Exists.intro [] (ret_bool (by simp [fineB, h]) rfl)

end Go.Fw

/- What the program's functions do: the errors of patterns. -/
namespace Go.Fw
open Go Go.Proofs
set_option maxRecDepth 10000

def tLs (l : List (Bool × List Int)) : List (List T) := l.map fun p => [tIs p.1 p.2]
theorem tLs_get {l : List (Bool × List Int)} {i : Nat} (h : i < l.length) : (tLs l)[((i : Int)).toNat]? = some [tIs l[i].1 l[i].2] := by simp [tLs, h]
theorem tLs_len (l : List (Bool × List Int)) : (tLs l).length = l.length := List.length_map ..

theorem f61_spec (t : Task) (w : Bool) (n1 : Bool) (p : List Int) (fr0 fr1 fr2 : Fr) (h2 : look fr2 24 = some (.box (cellsTask t))) (h3 : look fr2 32 = some (.box [.bool w])) (out : List Fr) :
    SpecP Tryz.prog 61 [.ints n1 p, .ptr (.fr 2 24) 0, .ptr (.fr 2 32) 0] (fr0 :: fr1 :: fr2 :: out) fun r ro => r = .bool (!fineB t w p) ∧ ro = [] := by
  refine spec_body cx_ok [] [] (fn := Tryz.f61) (by kernel_rfl) rfl (by kernel_rfl) rfl (by unfold FnOK; kernel_rfl) fun hok => ?_
  refine Exists.intro _ (And.intro (St.get_fr (fr := fr2) rfl h2) ?_)
  refine Exists.intro _ (And.intro (St.get_fr (fr := fr2) rfl h3) ?_)
  refine And.intro (fun hw => ?_) fun hw => ?_
  · refine SpecP.mono (f62_spec t n1 p true []) ?_
    rintro _ _ ⟨rfl, rfl⟩
    subst hw
    refine And.intro (fun h => ?_) fun h => ?_
    · exact Exists.intro [] (ret_bool (by rw [h]) rfl)
    · exact Exists.intro [] (ret_bool (by rw [h]) rfl)
  · refine SpecP.mono (f62_spec t n1 p false []) ?_
    rintro _ _ ⟨rfl, rfl⟩
    subst hw
    refine And.intro (fun h => ?_) fun h => ?_
    · exact Exists.intro [] (ret_bool (by rw [h]) rfl)
    · exact Exists.intro [] (ret_bool (by rw [h]) rfl)

def kq79 : Kp := [(2, ([0, 1, 7, 8], []))]
theorem f76_spec (n1 : Bool) (l : List (Bool × List Int)) (fc k s s2 : Nat) (p : Bool × List Int → Bool) (out : List Fr)
    (hc : ∀ x ∈ l, SpecP Tryz.prog fc [.ints x.1 x.2, .ptr (.fr (k + 1) s) 0, .ptr (.fr (k + 1) s2) 0] ([] :: out) fun r ro => r = .bool (p x) ∧ ro = []) :
    SpecP Tryz.prog 76 [.t (.sl n1 1 (tLs l)), .fn fc [(.fr k s, 0), (.fr k s2, 0)]] out fun r ro => ∃ j : Int, r = .int j ∧ decide (0 ≤ j) = l.any p ∧ ro = [] := by
  refine spec_body cx_ok kq79 [] (fn := Tryz.f76) (by kernel_rfl) rfl (by kernel_rfl) rfl (by unfold FnOK; kernel_rfl) fun hok => ?_
  have hmx : (l.length : Int) ≤ 9223372036854775807 := by have := hok.1.1; rw [tLs_len] at this; unfold maxLen at this; omega
  refine LoopW.mk Nat (fun i => i ≤ l.length ∧ (l.take i).any p = false) (fun i => [(0, .t (.sl n1 1 (tLs l))), (1, .fn fc [(.fr k s, 0), (.fr k s2, 0)]), (7, .int (tLs l).length), (8, .int i)]) (fun _ => ⟨out, []⟩) (fun i => l.length - i) 0 ⟨Nat.zero_le _, rfl⟩ ⟨rfl, rfl⟩ fun i hI => ?_
  refine And.intro (fun h1 => ?_) fun h1 => ?_
  · have hi : i < l.length := by have := of_decide_eq_true h1; rw [tLs_len] at this; omega
    refine And.intro (by omega) (Exists.intro _ (And.intro (tLs_get hi) ?_))
    refine SpecP.mono (hc _ (List.getElem_mem hi)) ?_
    rintro _ _ ⟨rfl, rfl⟩
    refine And.intro trivial (And.intro trivial ?_)
    refine And.intro (fun h2 => ?_) fun h2 => ?_
    · exact Exists.intro [] ⟨_, rfl, by rw [any_true hi h2]; simp, rfl⟩
    · refine And.intro (by omega) (And.intro (by omega) ?_)
      exact Exists.intro (i + 1) (And.intro (by show l.length - (i + 1) < l.length - i; omega) (And.intro ⟨hi, any_step hi hI.2 h2⟩ (And.intro rfl rfl)))
  · have hi : l.length ≤ i := by have := of_decide_eq_false h1; rw [tLs_len] at this; omega
    exact Exists.intro [] ⟨_, rfl, by rw [any_end hi hI.2]; rfl, rfl⟩

theorem f60_spec (n1 : Bool) (l : List (Bool × List Int)) (fc k s s2 : Nat) (p : Bool × List Int → Bool) (out : List Fr)
    (hc : ∀ x ∈ l, SpecP Tryz.prog fc [.ints x.1 x.2, .ptr (.fr (k + 2) s) 0, .ptr (.fr (k + 2) s2) 0] ([] :: [] :: out) fun r ro => r = .bool (p x) ∧ ro = []) :
    SpecP Tryz.prog 60 [.t (.sl n1 1 (tLs l)), .fn fc [(.fr k s, 0), (.fr k s2, 0)]] out fun r ro => r = .bool (l.any p) ∧ ro = [] := by
  refine spec_body cx_ok [] [] (fn := Tryz.f60) (by kernel_rfl) rfl (by kernel_rfl) rfl (by unfold FnOK; kernel_rfl) fun hok => ?_
  refine SpecP.mono (f76_spec n1 l fc (k + 1) s s2 p _ hc) ?_
  rintro _ _ ⟨j, rfl, hj, rfl⟩
  refine And.intro trivial (And.intro trivial ?_)
  refine And.intro (fun h => ?_) fun h => ?_
  · exact Exists.intro [] (ret_bool (by rw [← hj]; simpa using h) rfl)
  · exact Exists.intro [] (ret_bool (by rw [← hj]; simpa using h) rfl)

def asksI (t : Task) (w : Bool) (l : List (Bool × List Int)) : Int := if isB t = true then (if (l.any fun p => !fineB t w p.2) = true then 1 else 0) else 10
theorem f36_spec (t : Task) (w n1 : Bool) (l : List (Bool × List Int)) (out : List Fr) : SpecP Tryz.prog 36 [.task t, .bool w, .t (.sl n1 1 (tLs l))] out fun r ro => r = .int (asksI t w l) ∧ ro = [] := by
  refine spec_body cx_ok [] [] (fn := Tryz.f36) (by kernel_rfl) rfl (by kernel_rfl) rfl (by unfold FnOK; kernel_rfl) fun hok => ?_
  refine SpecP.mono (f59_spec t []) ?_
  rintro _ _ ⟨rfl, rfl⟩
  refine And.intro (fun h1 => ?_) fun h1 => ?_
  rotate_left
  · exact Exists.intro [] ⟨by simp only [asksI, h1]; rfl, rfl⟩
  refine SpecP.mono (f60_spec n1 l 61 0 24 32 (fun p => !fineB t w p.2) _ (fun x _ => f61_spec t w x.1 x.2 [] [] _ rfl rfl out)) ?_
  rintro _ _ ⟨rfl, rfl⟩
  refine And.intro trivial (And.intro trivial ?_)
  refine And.intro (fun h2 => ?_) fun h2 => ?_
  · exact Exists.intro [] ⟨by simp only [asksI, h1, h2]; rfl, rfl⟩
  · exact Exists.intro [] ⟨by simp only [asksI, h1, h2]; rfl, rfl⟩

def givenI (t : Task) (s : List Int) (l : List (Bool × List Int)) : Int := if fineI t s = 0 then asksI t true l else fineI t s
theorem f24_spec (t : Task) (n1 n2 : Bool) (s : List Int) (l : List (Bool × List Int)) (out : List Fr) : SpecP Tryz.prog 24 [.task t, .ints n1 s, .t (.sl n2 1 (tLs l))] out fun r ro => r = .int (givenI t s l) ∧ ro = [] := by
  refine spec_body cx_ok [] [] (fn := Tryz.f24) (by kernel_rfl) rfl (by kernel_rfl) rfl (by unfold FnOK; kernel_rfl) fun hok => ?_
  refine SpecP.mono (f46_spec t n1 s []) ?_
  rintro _ _ ⟨rfl, rfl⟩
  refine And.intro (fun h1 => ?_) fun h1 => ?_
  · have h1 : fineI t s ≠ 0 := by simpa using h1
    exact Exists.intro [] ⟨by rw [givenI, if_neg h1]; rfl, rfl⟩
  have h1 : fineI t s = 0 := by simpa using h1
  refine SpecP.mono (f36_spec t true n2 l []) ?_
  rintro _ _ ⟨rfl, rfl⟩
  exact Exists.intro [] ⟨by rw [givenI, if_pos h1]; rfl, rfl⟩

def oq24 : Od := [(4, [(0, .pure), (1, .pure), (2, .eff), (3, .eff), (4, .pure), (5, .pure)])]
end Go.Fw

/- What the program's functions do: the projection of a task. -/
namespace Go.Fw
open Go Go.Proofs
set_option maxRecDepth 10000

def projE (p : List Int) (e : Eff) : Eff := ⟨(litsL p e.when_).isEmpty, litsL p e.when_, ⟨posI p e.lit.fact, e.lit.neg⟩⟩
def projEs (p : List Int) (l : List Eff) : List Eff := (l.filter fun e => hasB p e.lit.fact).map (projE p)
def projA (p : List Int) (a : Actn) : Actn := ⟨a.name, a.cost, (litsL p a.pre).isEmpty, litsL p a.pre, (projEs p a.effs).isEmpty, projEs p a.effs⟩
def factS (t : Task) (x : Int) : ByteArray := t.facts.getD x.toNat ⟨#[]⟩
def projT (t : Task) (p : List Int) : Task := ⟨p.isEmpty, p.map (factS t), (factsL p t.init).isEmpty, factsL p t.init, (litsL p t.goal).isEmpty, litsL p t.goal, t.acts.isEmpty, t.acts.map (projA p)⟩
theorem projEs_step {p : List Int} {l : List Eff} {i : Nat} (hi : i < l.length) : projEs p (l.take (i + 1)) = projEs p (l.take i) ++ if hasB p l[i].lit.fact = true then [projE p l[i]] else [] := by
  rw [projEs, List.take_add_one, List.getElem?_eq_getElem hi, Option.toList_some, List.filter_append, List.map_append]
  simp only [projEs]
  cases h : hasB p l[i].lit.fact <;> simp [h]
theorem projEs_len (p : List Int) (l : List Eff) : (projEs p l).length ≤ l.length := by
  rw [projEs, List.length_map]; exact List.length_filter_le ..
theorem cond_len {l : List Lit} {n : Nat} (h : condB l n = true) (hn : n ≤ 200) : l.length ≤ 1000000000 := by
  have := rising_len (l := l.map Lit.fact) (n := (n : Int)) h (by omega)
  rwa [List.length_map] at this
/-- How long the lists of a valid task are. -/
structure TaskL (t : Task) : Prop where
  init : t.init.length ≤ 1000000000
  goal : t.goal.length ≤ 1000000000
  pre : ∀ a ∈ t.acts, a.pre.length ≤ 1000000000
  whn : ∀ a ∈ t.acts, ∀ e ∈ a.effs, e.when_.length ≤ 1000000000
theorem task_l {t : Task} (h : isB t = true) : TaskL t := by
  simp only [isB, Bool.and_eq_true, decide_eq_true_eq] at h
  obtain ⟨⟨⟨⟨⟨⟨h1, _⟩, h3⟩, h4⟩, h5⟩, h6⟩, _⟩ := h
  have ha : ∀ x ∈ t.acts, actB t.facts.length x = true := List.all_eq_true.1 h6
  have hp : ∀ x ∈ t.acts, ((0 ≤ x.cost ∧ x.cost ≤ 100000) ∧ condB x.pre t.facts.length = true) ∧ x.effs.length ≤ 100 ∧ ∀ e ∈ x.effs, effB t.facts.length e = true := fun x hx => by
    have := ha x hx
    simp only [actB, Bool.and_eq_true, decide_eq_true_eq] at this
    exact ⟨⟨⟨this.1.1.1.1, this.1.1.1.2⟩, this.1.1.2⟩, this.1.2, List.all_eq_true.1 this.2⟩
  refine ⟨rising_len h3 (by omega), cond_len h4 h1, fun x hx => cond_len (hp x hx).1.2 h1, fun x hx e he => ?_⟩
  have := (hp x hx).2.2 e he
  simp only [effB, Bool.and_eq_true, decide_eq_true_eq] at this
  exact cond_len this.1.1 h1

def kq34 : Kp := [(3, ([2, 4, 5, 6, 1], [0, 16, 32, 48, 137000459])), (4, ([2, 4, 5, 6, 27, 28, 29], [16, 32, 48, 137000459, 328])), (8, ([2, 4, 5, 6], [0, 16, 32, 48, 137000459, 328])), (21, ([4, 6], [0, 32, 48, 328, 768])),
  (9, ([4, 5, 6, 45, 46, 47], [32, 48, 137000459, 328, 768])), (13, ([4, 5, 6, 11, 45, 46, 47, 61, 62, 63], [32, 48, 137000459, 88, 328, 768, 712]))]
def oq34 : Od := [(2, [(0, .tree (.pure 0 (.pure 1 (.pure 2 (.pure 4 (.pure 5 (.pure 6 (.fork 3 (.fork 7 (.pure 8 (.eff 9 (.last 10 .done []))) [] (.last 9 (.last 7 (.pure 8 (.last 10 .done [])) []) [0, 1, 2, 4, 5, 6])) [4, 5, 6] (.last 9 (.last 3 (.last 7 (.pure 8 (.last 10 .done [])) []) [4, 5, 6]) [0, 1, 2, 4, 5, 6])))))))))]), (6, [(0, .tree (.pure 0 (.pure 1 (.pure 2 (.pure 3 (.pure 4 (.pure 5 (.pure 6 (.eff 7 (.last 8 (.pure 9 (.last 10 .done [])) [2, 3, 4]))))))))))]), (11, [(0, .tree (.pure 0 (.pure 1 (.pure 2 (.pure 3 (.pure 4 (.pure 5 (.pure 6 (.fork 7 (.pure 8 (.eff 9 (.last 10 .done []))) [0, 1, 2, 3] (.last 9 (.last 7 (.pure 8 (.last 10 .done [])) [0, 1, 2, 3]) [0, 1, 2, 3, 4, 5, 6]))))))))))]), (17, [(0, .tree (.pure 0 (.pure 1 (.pure 2 (.pure 3 (.pure 4 (.pure 6 (.pure 7 (.pure 8 (.pure 9 (.pure 10 (.last 5 (.pure 11 (.eff 12 (.last 13 (.pure 14 (.last 15 .done [])) [6, 7, 8, 9]))) [0, 1, 6, 7, 8, 9, 10]))))))))))))])]
def tailC : Nat → Code → Code
  | n + 1, .seq _ b => tailC n b
  | _, c => c
abbrev rest34 (k : Nat) (env : Env) (st : St) (Q : Exit → Env → St → Prop) : Prop := CutX (fun env st => wpcX cx Tryz.prog noY (modH Tryz.prog) 0 kq34 oq34 (tailC k (Tryz.f26.body.get!)) env st Q) env st
/-- Effects, and an action, as they are gathered. -/
def tE0 (E : List Eff) : T := .sl E.isEmpty (if E.isEmpty then 0 else 3) (E.map tEff)
def tActP (p : List Int) (a : Actn) : List T := [.v (.string a.name), .v (.int .i64 a.cost), .sl (litsL p a.pre).isEmpty 2 ((litsL p a.pre).map tLit), tE0 (projEs p a.effs)]
abbrev resP (t : Task) (p : List Int) : LV → Fr → Prop := fun r ro => r = .agg [accV 328 1 ((p.map (factS t)).map tS), .ints (factsL p t.init).isEmpty (factsL p t.init), .lits (litsL p t.goal).isEmpty (litsL p t.goal), accV 768 4 (t.acts.map (tActP p))] ∧
  ro = accO 328 9 1 ((p.map (factS t)).map tS) ++ accO 768 53 4 (t.acts.map (tActP p))
abbrev zeroP : Ob := .box [.t (.sl true 0 []), .t (.sl true 0 []), .t (.sl true 0 []), .t (.sl true 0 [])]
abbrev boxP (t : Task) (p : List Int) (F : List ByteArray) (A : List Actn) : Ob := .box [accV 328 1 (F.map tS), .ints (factsL p t.init).isEmpty (factsL p t.init), .lits (litsL p t.goal).isEmpty (litsL p t.goal), accV 768 4 (A.map (tActP p))]
abbrev envP : Env := [(2, .ptr (.cur 16) 0), (4, .ptr (.cur 32) 0), (5, .mpr (.cur 137000459)), (6, .ptr (.cur 48) 0)]

/-- The facts' names. -/
theorem f26_facts (t : Task) (n1 : Bool) (p : List Int) (hp : ∀ x ∈ p, 0 ≤ x ∧ x < (t.facts.length : Int)) (hpl : p.length ≤ 1000000000) (out : List Fr) (Q : Exit → Env → St → Prop)
    (rest8 : rest34 4 envP ⟨out, [(16, .box (cellsTask t)), (32, zeroP), (48, boxP t p (p.map (factS t)) []), (137000459, .mp (.int .i64) (kvP p))] ++ accO 328 9 1 ((p.map (factS t)).map tS)⟩ Q) :
    rest34 3 (envP ++ [(1, .ints n1 p)]) ⟨out, [(16, .box (cellsTask t)), (32, zeroP), (48, boxP t p [] []), (137000459, .mp (.int .i64) (kvP p))]⟩ Q := by
  refine CutX.mk ?_
  refine LoopX.mk (Nat × List ByteArray) (fun u => u.1 ≤ p.length ∧ u.2 = (p.take u.1).map (factS t)) (fun u => envP ++ [(27, .ints n1 p), (28, .int (p.map tI).length), (29, .int u.1)])
    (fun u => ⟨out, [(16, .box (cellsTask t)), (32, zeroP), (48, boxP t p u.2 []), (137000459, .mp (.int .i64) (kvP p))] ++ accO 328 9 1 (u.2.map tS)⟩) (fun u => p.length - u.1) (0, []) ⟨Nat.zero_le _, rfl⟩ ⟨rfl, rfl⟩ ?_
  rintro ⟨i, F⟩ ⟨hi0, hF⟩
  simp only at hi0 hF
  have hFl : F.length ≤ 1000000000 := by rw [hF, List.length_map, List.length_take]; omega
  cases F
  case' nil => let O : List ByteArray := []
  case' cons y r => let O : List ByteArray := y :: r
  all_goals
    refine And.intro (fun h1 => ?_) fun h1 => ?_
    rotate_left
    · have hi : i = p.length := by have := ge_of_dec h1; have : i ≤ p.length := hi0; omega
      rw [hi, List.take_length] at hF
      have hF' : O = p.map (factS t) := hF
      rw [← hF'] at rest8
      exact rest8
    have hi : i < p.length := lt_of_dec h1
    have hx := hp _ (List.getElem_mem hi)
    have hlt : p[i].toNat < t.facts.length := by omega
    have hg : (t.facts.map tS)[p[i].toNat]? = some (tS (factS t p[i])) := by
      rw [List.getElem?_map, List.getElem?_eq_getElem hlt, factS, List.getD_eq_getElem?_getD, List.getElem?_eq_getElem hlt]; rfl
    refine And.intro (by omega) (Exists.intro _ (And.intro (get_map hi) ?_))
    refine And.intro hx.1 (Exists.intro _ (And.intro hg ?_))
    have hl4 : ∀ X : List T, ((O.map tS) ++ [X]).length ≤ 1000000001 := fun X => by
      have : O.length ≤ 1000000000 := hFl
      rw [List.length_append, List.length_map, List.length_singleton]; omega
    have hnew : O ++ [factS t p[i]] = (p.take (i + 1)).map (factS t) := by
      rw [List.take_add_one, List.getElem?_eq_getElem hi, List.map_append, ← hF]; rfl
    repeat first
      | refine And.intro (Nat.le_of_ble_eq_true rfl) ?_
      | refine And.intro rfl ?_
      | refine And.intro (Nat.le_trans (Nat.mul_le_mul_right _ (hl4 _)) (Nat.le_of_ble_eq_true rfl)) ?_
      | refine And.intro (Nat.le_trans (hl4 _) (Nat.le_of_ble_eq_true rfl)) ?_
    refine And.intro (by show (-9223372036854775808 : Int) ≤ (i : Int) + 1; omega) (And.intro (by show (i : Int) + 1 ≤ 9223372036854775807; omega) ?_)
    first
      | exact Exists.intro (i + 1, [factS t p[i]]) (And.intro (by show p.length - (i + 1) < p.length - i; omega) (And.intro ⟨hi, hnew⟩ (And.intro rfl rfl)))
      | (refine Exists.intro (i + 1, y :: (r ++ [factS t p[i]])) (And.intro (by show p.length - (i + 1) < p.length - i; omega) (And.intro ⟨hi, hnew⟩ ?_))
         have e : (r ++ [factS t p[i]]).map tS = r.map tS ++ [tS (factS t p[i])] := by simp
         simp only [boxP, List.map_cons, e]
         exact And.intro rfl rfl)

abbrev stE (t : Task) (p : List Int) (out : List Fr) (G : List ByteArray) (N : List Actn) (a : Actn) (eL : T) : St :=
  ⟨out, [(32, zeroP), (48, .box [accV 328 1 (G.map tS), .ints (factsL p t.init).isEmpty (factsL p t.init), .lits (litsL p t.goal).isEmpty (litsL p t.goal),
    .osl (.cur 768) 4 0 (N.map (tActP p) ++ [[.v (.string a.name), .v (.int .i64 a.cost), .sl (litsL p a.pre).isEmpty 2 ((litsL p a.pre).map tLit), eL]]).length]), (137000459, .mp (.int .i64) (kvP p))] ++ accO 328 9 1 (G.map tS) ++
    [(768, .row 53 4 (N.map (tActP p) ++ [[.v (.string a.name), .v (.int .i64 a.cost), .sl (litsL p a.pre).isEmpty 2 ((litsL p a.pre).map tLit), eL]]))]⟩
theorem stE_eq {t : Task} {p : List Int} {out : List Fr} {G : List ByteArray} {N : List Actn} {a : Actn} {eL : T} (he : eL = tE0 (projEs p a.effs)) :
    stE t p out G N a eL = ⟨out, [(32, zeroP), (48, boxP t p G (N ++ [a])), (137000459, .mp (.int .i64) (kvP p))] ++ accO 328 9 1 (G.map tS) ++ accO 768 53 4 ((N ++ [a]).map (tActP p))⟩ := by
  subst he
  have e : (N ++ [a]).map (tActP p) = N.map (tActP p) ++ [tActP p a] := by simp
  unfold stE boxP
  rw [e, accV_ne (σ := 768) (sz := 4) (by simp), accO_ne (σ := 768) (sz := 4) (by simp)]
  rfl
set_option maxHeartbeats 2000000 in
/-- The actions. -/
theorem f26_acts (t : Task) (p : List Int) (TK : TaskOK t) (TL : TaskL t) (out : List Fr) (Q : Exit → Env → St → Prop) (F : List ByteArray)
    (fin : rest34 5 [(4, .ptr (.cur 32) 0), (6, .ptr (.cur 48) 0)] ⟨out, [(32, zeroP), (48, boxP t p F t.acts)] ++ accO 328 9 1 (F.map tS) ++ accO 768 53 4 (t.acts.map (tActP p))⟩ Q) :
    rest34 4 envP ⟨out, [(16, .box (cellsTask t)), (32, zeroP), (48, boxP t p F []), (137000459, .mp (.int .i64) (kvP p))] ++ accO 328 9 1 (F.map tS)⟩ Q := by
  refine CutX.mk ?_
  have hal := TK.acts
  cases F
  case' nil => let G : List ByteArray := []
  case' cons x0 r0 => let G : List ByteArray := x0 :: r0
  all_goals
    refine LoopX.mk (Nat × List Actn) (fun u => u.1 ≤ t.acts.length ∧ u.2 = t.acts.take u.1) (fun u => [(4, .ptr (.cur 32) 0), (5, .mpr (.cur 137000459)), (6, .ptr (.cur 48) 0), (45, .t (.sl t.an 4 (t.acts.map tAct))), (46, .int (t.acts.map tAct).length), (47, .int u.1)])
      (fun u => ⟨out, [(32, zeroP), (48, boxP t p G u.2), (137000459, .mp (.int .i64) (kvP p))] ++ accO 328 9 1 (G.map tS) ++ accO 768 53 4 (u.2.map (tActP p))⟩) (fun u => t.acts.length - u.1) (0, []) ⟨Nat.zero_le _, rfl⟩ ⟨rfl, rfl⟩ ?_
    rintro ⟨i, M⟩ ⟨hi0, hM⟩
    simp only at hi0 hM
    have hMl : M.length ≤ 1000 := by rw [hM, List.length_take]; omega
    cases M
    case' nil => let N : List Actn := []
    case' cons y r => let N : List Actn := y :: r
    all_goals
      refine And.intro (fun h1 => ?_) fun h1 => ?_
      rotate_left
      · have hi : i = t.acts.length := by have := ge_of_dec h1; have : i ≤ t.acts.length := hi0; omega
        rw [hi, List.take_length] at hM
        have hM' : N = t.acts := hM
        rw [← hM'] at fin
        exact fin
      have hi : i < t.acts.length := lt_of_dec h1
      have hem : t.acts[i] ∈ t.acts := List.getElem_mem hi
      have hel := TK.effs _ hem
      refine And.intro (by omega) (Exists.intro _ (And.intro (get_map hi) ?_))
      repeat' first
        | refine And.intro rfl ?_
        | (refine SpecP.mono (f53_spec t.acts[i].pn p t.acts[i].pre _ 137000459 rfl (TL.pre _ hem) _) ?_; rintro _ _ ⟨rfl, rfl⟩)
        | refine And.intro ?_ ?_
      all_goals
        refine LoopX.mk (Nat × List Eff) (fun u => u.1 ≤ t.acts[i].effs.length ∧ u.2 = projEs p (t.acts[i].effs.take u.1)) (fun u => [(4, .ptr (.cur 32) 0), (5, .mpr (.cur 137000459)), (6, .ptr (.cur 48) 0), (11, .ptr (.cur 88) 0), (45, .t (.sl t.an 4 (t.acts.map tAct))), (46, .int (t.acts.map tAct).length), (47, .int i),
            (61, .t (.sl t.acts[i].en 3 (t.acts[i].effs.map tEff))), (62, .int (t.acts[i].effs.map tEff).length), (63, .int u.1)])
          (fun u => ⟨out, [(32, zeroP), (48, boxP t p G N), (137000459, .mp (.int .i64) (kvP p)), (88, .box [.t (.v (.string t.acts[i].name)), .int t.acts[i].cost, .lits (litsL p t.acts[i].pre).isEmpty (litsL p t.acts[i].pre), accV 712 3 (u.2.map tEff)])] ++ accO 328 9 1 (G.map tS) ++ accO 768 53 4 (N.map (tActP p)) ++ accO 712 57 3 (u.2.map tEff)⟩)
          (fun u => t.acts[i].effs.length - u.1) (0, []) ⟨Nat.zero_le _, rfl⟩ ⟨rfl, rfl⟩ ?_
        rintro ⟨k, E⟩ ⟨hk0, hE⟩
        simp only at hk0 hE
        have hEl : E.length ≤ 100 := by rw [hE]; have := projEs_len p (t.acts[i].effs.take k); rw [List.length_take] at this; omega
        cases E
        case' nil => let O : List Eff := []
        case' cons z w => let O : List Eff := z :: w
        all_goals
          refine And.intro (fun h2 => ?_) fun h2 => ?_
          rotate_left
          · have hk : k = t.acts[i].effs.length := by have := ge_of_dec h2; have : k ≤ t.acts[i].effs.length := hk0; omega
            rw [hk, List.take_length] at hE
            have hE' : O = projEs p t.acts[i].effs := hE
            have hnew : N ++ [t.acts[i]] = t.acts.take (i + 1) := by rw [List.take_add_one, List.getElem?_eq_getElem hi, ← hM]; rfl
            have hl5 : ∀ X : List T, ((N.map (tActP p)) ++ [X]).length ≤ 1001 := fun X => by
              have : N.length ≤ 1000 := hMl
              rw [List.length_append, List.length_map, List.length_singleton]; omega
            repeat first
              | refine And.intro (Nat.le_of_ble_eq_true rfl) ?_
              | refine And.intro rfl ?_
              | refine And.intro (Nat.le_of_eq (Nat.zero_add _)) ?_
              | refine And.intro (Nat.le_trans (Nat.mul_le_mul_right _ (hl5 _)) (Nat.le_of_ble_eq_true rfl)) ?_
              | refine And.intro (Nat.le_trans (hl5 _) (Nat.le_of_ble_eq_true rfl)) ?_
            refine And.intro (by show (-9223372036854775808 : Int) ≤ (i : Int) + 1; omega) (And.intro (by show (i : Int) + 1 ≤ 9223372036854775807; omega) ?_)
            refine Exists.intro (i + 1, N ++ [t.acts[i]]) (And.intro (by show t.acts.length - (i + 1) < t.acts.length - i; omega) (And.intro ⟨hi, hnew⟩ ?_))
            first
              | exact And.intro rfl (Eq.trans rfl (stE_eq (t := t) (p := p) (out := out) (G := G) (N := N) (a := t.acts[i]) (eL := .sl true 0 []) (by rw [← hE']; rfl)))
              | exact And.intro rfl (Eq.trans rfl (stE_eq (t := t) (p := p) (out := out) (G := G) (N := N) (a := t.acts[i]) (eL := .sl false 3 (((tEff z :: w.map tEff).drop 0).take (tEff z :: w.map tEff).length)) (by rw [← hE', ← take_all]; rfl)))
          have hk : k < t.acts[i].effs.length := lt_of_dec h2
          have hek : t.acts[i].effs[k] ∈ t.acts[i].effs := List.getElem_mem hk
          have stp := projEs_step (p := p) hk
          rw [← hE] at stp
          refine And.intro (by omega) (Exists.intro _ (And.intro (get_map hk) ?_))
          refine Exists.intro _ (Exists.intro _ (And.intro (look_kvP p t.acts[i].effs[k].lit.fact) (And.intro (has_kvP p t.acts[i].effs[k].lit.fact) ?_)))
          refine And.intro (fun h3 => ?_) fun h3 => ?_
          rotate_left
          · have h3 : hasB p t.acts[i].effs[k].lit.fact = false := h3
            rw [h3, if_neg (by simp), List.append_nil] at stp
            refine And.intro (by show (-9223372036854775808 : Int) ≤ (k : Int) + 1; omega) (And.intro (by show (k : Int) + 1 ≤ 9223372036854775807; omega) ?_)
            exact Exists.intro (k + 1, O) (And.intro (by show t.acts[i].effs.length - (k + 1) < t.acts[i].effs.length - k; omega) (And.intro ⟨hk, stp.symm⟩ (And.intro rfl rfl)))
          have h3 : hasB p t.acts[i].effs[k].lit.fact = true := h3
          rw [if_pos h3] at stp
          refine And.intro (fun h4 => ?_) fun h4 => ?_
          case' refine_1 => let b : Bool := true
          case' refine_2 => let b : Bool := false
          all_goals
            replace h4 : t.acts[i].effs[k].lit.neg = b := h4
            rw [projE, h4] at stp
            refine SpecP.mono (f53_spec t.acts[i].effs[k].nil p t.acts[i].effs[k].when_ _ 137000459 rfl (TL.whn _ hem _ hek) _) ?_
            rintro _ _ ⟨rfl, rfl⟩
            have hl4 : ∀ X : List T, ((O.map tEff) ++ [X]).length ≤ 101 := fun X => by
              have : O.length ≤ 100 := hEl
              rw [List.length_append, List.length_map, List.length_singleton]; omega
            repeat first
              | refine And.intro (Nat.le_of_ble_eq_true rfl) ?_
              | refine And.intro rfl ?_
              | refine And.intro (by rw [h4]; rfl) ?_
              | refine And.intro (Nat.le_trans (Nat.mul_le_mul_right _ (hl4 _)) (Nat.le_of_ble_eq_true rfl)) ?_
              | refine And.intro (Nat.le_trans (hl4 _) (Nat.le_of_ble_eq_true rfl)) ?_
            refine And.intro (by show (-9223372036854775808 : Int) ≤ (k : Int) + 1; omega) (And.intro (by show (k : Int) + 1 ≤ 9223372036854775807; omega) ?_)
            first
              | exact Exists.intro (k + 1, [(⟨(litsL p t.acts[i].effs[k].when_).isEmpty, litsL p t.acts[i].effs[k].when_, ⟨posI p t.acts[i].effs[k].lit.fact, b⟩⟩ : Eff)]) (And.intro (by show t.acts[i].effs.length - (k + 1) < t.acts[i].effs.length - k; omega) (And.intro ⟨hk, stp.symm⟩ (And.intro rfl rfl)))
              | (refine Exists.intro (k + 1, z :: (w ++ [(⟨(litsL p t.acts[i].effs[k].when_).isEmpty, litsL p t.acts[i].effs[k].when_, ⟨posI p t.acts[i].effs[k].lit.fact, b⟩⟩ : Eff)])) (And.intro (by show t.acts[i].effs.length - (k + 1) < t.acts[i].effs.length - k; omega) (And.intro ⟨hk, stp.symm⟩ ?_))
                 have e : (w ++ [(⟨(litsL p t.acts[i].effs[k].when_).isEmpty, litsL p t.acts[i].effs[k].when_, ⟨posI p t.acts[i].effs[k].lit.fact, b⟩⟩ : Eff)]).map tEff = w.map tEff ++ [tEff ⟨(litsL p t.acts[i].effs[k].when_).isEmpty, litsL p t.acts[i].effs[k].when_, ⟨posI p t.acts[i].effs[k].lit.fact, b⟩⟩] := by simp
                 simp only [List.map_cons, e]
                 exact And.intro rfl rfl)

end Go.Fw

/- What the program's functions do: the projection of a task, whole. -/
namespace Go.Fw
open Go Go.Proofs
set_option maxRecDepth 10000

theorem rising_nodup {l : List Int} {n : Int} (h : risingB l n = true) : l.Nodup := (rising_inc h).imp fun h => Int.ne_of_lt h
theorem f26_fin (t : Task) (p : List Int) (out : List Fr) :
    rest34 5 [(4, .ptr (.cur 32) 0), (6, .ptr (.cur 48) 0)] ⟨out, [(32, zeroP), (48, boxP t p (p.map (factS t)) t.acts)] ++ accO 328 9 1 ((p.map (factS t)).map tS) ++ accO 768 53 4 (t.acts.map (tActP p))⟩ (retW cx Tryz.f26.results.toList (resP t p)) := by
  refine CutX.mk ?_
  simp only [boxP]
  generalize hF : p.map (factS t) = F
  generalize hA : t.acts.map (tActP p) = A
  cases F <;> cases A
  all_goals
    refine Exists.intro [328, 768] ?_
    exact ⟨by rw [hF, hA]; rfl, by rw [hF, hA]; rfl⟩

theorem f26o_spec (t : Task) (n1 : Bool) (p : List Int) (ht : isB t = true) (hp : risingB p t.facts.length = true) (out : List Fr) : SpecP Tryz.prog 26 [.task t, .ints n1 p] out (resP t p) := by
  have TK := task_ok ht
  have TL := task_l ht
  have hin := rising_in hp
  have hpl := rising_len hp (by have := TK.facts; omega)
  refine spec_walkH cx_ok mH_ok kq34 oq34 (fn := Tryz.f26) (by kernel_rfl) rfl (by kernel_rfl) rfl (by unfold FnOK; kernel_rfl) fun hok => ?_
  have rest := f26_facts t n1 p hin hpl out _ (f26_acts t p TK TL out _ _ (f26_fin t p out))
  refine SpecP.mono (f28_spec n1 p (rising_nodup hp) []) ?_
  rintro _ _ ⟨rfl, rfl⟩
  repeat' first
    | exact rest
    | refine And.intro rfl ?_
    | (refine SpecP.mono (f27_spec t.ni p t.init _ 137000459 rfl TL.init _) ?_; rintro _ _ ⟨rfl, rfl⟩)
    | (refine SpecP.mono (f53_spec t.gn p t.goal _ 137000459 rfl TL.goal _) ?_; rintro _ _ ⟨rfl, rfl⟩)
    | refine And.intro ?_ ?_

theorem look_acc {σ e sz : Nat} {es : List (List T)} {R : Fr} {k : Nat} (h : σ ≠ k) : look (accO σ e sz es ++ R) k = look R k := by
  cases es with
  | nil => rfl
  | cons x r => exact (look_cons ..).trans (if_neg (fun he => h he))
theorem un_E0 (E : List Eff) : (T.sl E.isEmpty 3 (E.map tEff)).un = (tE0 E).un := by cases E <;> rfl
theorem un_acts {p : List Int} : ∀ l : List Actn, T.un.unEs ((l.map (projA p)).map tAct) = T.un.unEs (l.map (tActP p))
  | [] => rfl
  | a :: r => by
    have ih := un_acts (p := p) r
    simp only [List.map_cons, T.un.unEs, ih]
    congr 1
    simp only [tAct, tActP, projA, T.un.unEl, un_E0]
theorem f26_spec (t : Task) (n1 : Bool) (p : List Int) (ht : isB t = true) (hp : risingB p t.facts.length = true) (out : List Fr) : SpecP Tryz.prog 26 [.task t, .ints n1 p] out fun r ro => r = .task (projT t p) ∧ ro = [] :=
  (f26o_spec t n1 p ht hp out).close fun r ro ⟨h1, h2⟩ => by
    refine ⟨_, ?_, rfl, rfl⟩
    rw [h1]
    have a1 := acc_cls (s := 328) (e := 9) (sz := 1) (es := (p.map (factS t)).map tS) (ro := ro) fun x r he => by rw [h2, he]; exact look_cons .. |>.trans (if_pos rfl)
    have a2 := acc_cls (s := 768) (e := 53) (sz := 4) (es := t.acts.map (tActP p)) (ro := ro) fun x r he => by rw [h2, look_acc (by decide), he]; exact look_cons .. |>.trans (if_pos rfl)
    rw [show ((p.map (factS t)).map tS).isEmpty = p.isEmpty by cases p <;> rfl] at a1
    rw [show (t.acts.map (tActP p)).isEmpty = t.acts.isEmpty by cases t.acts <;> rfl] at a2
    refine .agg _ [.t (.sl p.isEmpty 1 ((p.map (factS t)).map tS)), .t (.sl (factsL p t.init).isEmpty 1 ((factsL p t.init).map tI)), .t (.sl (litsL p t.goal).isEmpty 2 ((litsL p t.goal).map tLit)), .t (.sl t.acts.isEmpty 4 ((t.acts.map (projA p)).map tAct))] rfl fun i x y hx hy => ?_
    match i with
    | 0 => simp at hx hy; subst hx hy; rw [List.map_map] at a1; exact a1
    | 1 => simp at hx hy; subst hx hy; exact .same _
    | 2 => simp at hx hy; subst hx hy; exact .same _
    | 3 =>
      simp only [List.getElem?_cons_succ, List.getElem?_cons_zero, Option.some.injEq] at hx hy; subst hx hy
      refine .trans _ _ _ a2 (.un _ _ ?_)
      cases t.acts with
      | nil => rfl
      | cons a r => simp only [List.isEmpty_cons, un_sl]; rw [un_acts (a :: r)]
    | i + 4 => simp at hx

end Go.Fw

/- Heaps of items in lists: what 'up' and 'down' of the standard heap do. -/
namespace Go.Fw.Heap

abbrev Item := Int × Int

def at_ (l : List Item) (j : Nat) : Item := l.getD j (0, 0)
def vl (l : List Item) (j : Nat) : Int := (at_ l j).2
def swapL (l : List Item) (i j : Nat) : List Item := (l.set i (at_ l j)).set j (at_ l i)

theorem at_get {l : List Item} {j : Nat} (h : j < l.length) : l[j]? = some (at_ l j) := by simp [at_, h]
theorem swapL_length (l : List Item) (i j : Nat) : (swapL l i j).length = l.length := by simp [swapL]
theorem at_swap {l : List Item} {i j : Nat} (hi : i < l.length) (hj : j < l.length) (k : Nat) : at_ (swapL l i j) k = if k = j then at_ l i else if k = i then at_ l j else at_ l k := by
  unfold swapL at_
  simp only [List.getD_eq_getElem?_getD, List.getElem?_set]
  by_cases h1 : j = k
  · subst h1; simp [hj]
  · rw [if_neg h1, if_neg (Ne.symm h1)]
    by_cases h2 : i = k
    · subst h2; simp [hi]
    · rw [if_neg h2, if_neg (Ne.symm h2)]
theorem vl_swap {l : List Item} {i j : Nat} (hi : i < l.length) (hj : j < l.length) (k : Nat) : vl (swapL l i j) k = if k = j then vl l i else if k = i then vl l j else vl l k := by
  unfold vl; rw [at_swap hi hj]; split
  · rfl
  · split <;> rfl

theorem swapL_perm {l : List Item} {i j : Nat} (hi : i < l.length) (hj : j < l.length) : (swapL l i j).Perm l := by
  classical
  have key : ∀ (l : List Item) (i : Nat) (x : Item), i < l.length → (l.set i x).Perm (x :: l.eraseIdx i) := by
    intro l
    induction l with
    | nil => intro i x h; simp at h
    | cons y r ih =>
      intro i x h
      cases i with
      | zero => simp
      | succ i =>
        simp only [List.set_cons_succ, List.eraseIdx_cons_succ]
        exact ((ih i x (by simpa using h)).cons y).trans (List.Perm.swap _ _ _)
  by_cases hij : i = j
  · subst hij
    have : swapL l i i = l := by
      unfold swapL at_
      apply List.ext_getElem?
      intro k
      simp only [List.getElem?_set, List.length_set]
      by_cases h : i = k
      · subst h; simp [hi]
      · simp [h]
    rw [this]
  · refine List.perm_iff_count.2 fun a => ?_
    unfold swapL
    have h1 := (key (l.set i (at_ l j)) j (at_ l i) (by simpa using hj)).count_eq a
    have h3 : (l.set i (at_ l j)).Perm (at_ l j :: l.eraseIdx i) := key l i _ hi
    have h4 : l.Perm (at_ l i :: l.eraseIdx i) := by
      have := key l i (at_ l i) hi
      have e : l.set i (at_ l i) = l := by
        apply List.ext_getElem?
        intro k
        simp only [List.getElem?_set, at_]
        by_cases h : i = k
        · subst h; simp [hi]
        · simp [h]
      rwa [e] at this
    have h5 : (l.set i (at_ l j)).Perm (at_ l j :: (l.set i (at_ l j)).eraseIdx j) := by
      have := key (l.set i (at_ l j)) j (at_ l j) (by simpa using hj)
      have e : (l.set i (at_ l j)).set j (at_ l j) = l.set i (at_ l j) := by
        apply List.ext_getElem?
        intro k
        simp only [List.getElem?_set, List.length_set, at_]
        by_cases h : j = k
        · subst h; simp [hj, hij]
        · simp [h]
      rwa [e] at this
    have c3 := h3.count_eq a
    have c4 := h4.count_eq a
    have c5 := h5.count_eq a
    simp only [List.count_cons] at h1 c3 c4 c5 ⊢
    omega

def upL (l : List Item) (j : Nat) : List Item :=
  if _h : j = 0 then l else if vl l j < vl l ((j - 1) / 2) then upL (swapL l ((j - 1) / 2) j) ((j - 1) / 2) else l
termination_by j
decreasing_by omega

def kid (l : List Item) (i n : Nat) : Nat := if 2 * i + 2 < n ∧ vl l (2 * i + 2) < vl l (2 * i + 1) then 2 * i + 2 else 2 * i + 1
theorem kid_gt (l : List Item) (i n : Nat) : i < kid l i n := by unfold kid; split <;> omega
theorem kid_lt {l : List Item} {i n : Nat} (h : 2 * i + 1 < n) : kid l i n < n := by unfold kid; split <;> omega
def downL (l : List Item) (i n : Nat) : List Item :=
  if _h : 2 * i + 1 < n then if vl l (kid l i n) < vl l i then downL (swapL l i (kid l i n)) (kid l i n) n else l else l
termination_by n - i
decreasing_by have := kid_gt l i n; have := kid_lt (l := l) ‹2 * i + 1 < n›; omega

def HP (l : List Item) (n : Nat) : Prop := ∀ j, 0 < j → j < n → vl l ((j - 1) / 2) ≤ vl l j

theorem up_spec : ∀ (j : Nat) (l : List Item), j < l.length → (upL l j).Perm l ∧ (upL l j).length = l.length ∧
    ((∀ k, 0 < k → k < l.length → k ≠ j → vl l ((k - 1) / 2) ≤ vl l k) → (∀ k, 0 < k → k < l.length → (k - 1) / 2 = j → 0 < j → vl l ((j - 1) / 2) ≤ vl l k) → HP (upL l j) l.length) := by
  intro j
  induction j using Nat.strongRecOn with
  | _ j ih =>
  intro l hj
  unfold upL
  split
  · rename_i h0
    subst h0
    exact ⟨.refl _, rfl, fun h1 _ k hk hl => h1 k hk hl (by omega)⟩
  · rename_i h0
    split
    · rename_i hlt
      have hp : (j - 1) / 2 < l.length := by omega
      obtain ⟨a, b, c⟩ := ih ((j - 1) / 2) (by omega) (swapL l ((j - 1) / 2) j) (by rw [swapL_length]; exact hp)
      rw [swapL_length] at b c
      refine ⟨a.trans (swapL_perm hp hj), b, fun h1 h2 => c ?_ ?_⟩
      · intro k hk hl hne
        rw [vl_swap hp hj, vl_swap hp hj]
        by_cases e1 : k = j
        · subst e1
          rw [if_neg (by omega), if_pos rfl, if_pos rfl]; omega
        · rw [if_neg e1, if_neg hne]
          by_cases e2 : (k - 1) / 2 = j
          · rw [if_pos e2]; exact h2 k hk hl e2 (by omega)
          · rw [if_neg e2]
            by_cases e3 : (k - 1) / 2 = (j - 1) / 2
            · rw [if_pos e3]
              have := h1 k hk hl e1
              rw [e3] at this; omega
            · rw [if_neg e3]; exact h1 k hk hl e1
      · intro k hk hl he h0'
        rw [vl_swap hp hj, vl_swap hp hj]
        rw [if_neg (by omega), if_neg (by omega)]
        have hpp := h1 ((j - 1) / 2) h0' hp (by omega)
        by_cases e1 : k = j
        · rw [if_pos e1]; exact hpp
        · rw [if_neg e1]
          by_cases e2 : k = (j - 1) / 2
          · omega
          · rw [if_neg e2]
            have := h1 k hk hl e1
            rw [he] at this; omega
    · rename_i hge
      refine ⟨.refl _, rfl, fun h1 _ k hk hl => ?_⟩
      by_cases e : k = j
      · subst e; omega
      · exact h1 k hk hl e

theorem down_spec : ∀ (d : Nat) (n i : Nat) (l : List Item), n - i = d → n ≤ l.length → i < l.length → (downL l i n).Perm l ∧ (downL l i n).length = l.length ∧ (∀ k, n ≤ k → at_ (downL l i n) k = at_ l k) ∧
    ((∀ k, 0 < k → k < n → (k - 1) / 2 ≠ i → vl l ((k - 1) / 2) ≤ vl l k) → (∀ k, 0 < k → k < n → (k - 1) / 2 = i → 0 < i → vl l ((i - 1) / 2) ≤ vl l k) → HP (downL l i n) n) := by
  intro d
  induction d using Nat.strongRecOn with
  | _ d ih =>
  intro n i l hd hn hi
  unfold downL
  split
  · rename_i h0
    have hkn := kid_lt (l := l) h0
    have hki := kid_gt l i n
    have hkp : (kid l i n - 1) / 2 = i := by unfold kid; split <;> omega
    have hkl : kid l i n < l.length := by omega
    have hmin : ∀ k, 0 < k → k < n → (k - 1) / 2 = i → vl l (kid l i n) ≤ vl l k := by
      intro k hk hl he
      have : k = 2 * i + 1 ∨ k = 2 * i + 2 := by omega
      unfold kid
      split
      · rename_i h
        rcases this with rfl | rfl
        · omega
        · exact Int.le_refl _
      · rename_i h
        rcases this with rfl | rfl
        · exact Int.le_refl _
        · by_cases h3 : vl l (2 * i + 2) < vl l (2 * i + 1)
          · exact absurd ⟨hl, h3⟩ h
          · omega
    split
    · rename_i hlt
      obtain ⟨a, b, c, e⟩ := ih (n - kid l i n) (by omega) n (kid l i n) (swapL l i (kid l i n)) rfl (by rw [swapL_length]; exact hn) (by rw [swapL_length]; exact hkl)
      rw [swapL_length] at b
      refine ⟨a.trans (swapL_perm hi hkl), b, fun k hk => ?_, fun h1 h2 => e ?_ ?_⟩
      · rw [c k hk, at_swap hi hkl, if_neg (by omega), if_neg (by omega)]
      · intro k hk hl hne
        rw [vl_swap hi hkl, vl_swap hi hkl]
        rw [if_neg hne]
        by_cases e1 : k = kid l i n
        · rw [if_pos e1, if_pos (by omega)]; omega
        · rw [if_neg e1]
          by_cases e2 : (k - 1) / 2 = i
          · rw [if_pos e2, if_neg (by omega)]; exact hmin k hk hl e2
          · rw [if_neg e2]
            by_cases e3 : k = i
            · rw [if_pos e3, e3]
              exact h2 _ (by omega) hkn hkp (by omega)
            · rw [if_neg e3]; exact h1 k hk hl e2
      · intro k hk hl he h0'
        rw [vl_swap hi hkl, vl_swap hi hkl]
        rw [hkp, if_neg (by omega), if_pos rfl, if_neg (by omega), if_neg (by omega)]
        have := h1 k hk hl (by omega)
        rw [he] at this; exact this
    · rename_i hge
      refine ⟨.refl _, rfl, fun _ _ => rfl, fun h1 h2 k hk hl => ?_⟩
      by_cases e : (k - 1) / 2 = i
      · have := hmin k hk hl e; rw [e]; omega
      · exact h1 k hk hl e
  · rename_i h0
    exact ⟨.refl _, rfl, fun _ _ => rfl, fun h1 h2 k hk hl => h1 k hk hl (by omega)⟩

theorem HP.root {l : List Item} {n : Nat} (h : HP l n) : ∀ j, j < n → vl l 0 ≤ vl l j := by
  intro j
  induction j using Nat.strongRecOn with
  | _ j ih =>
  intro hj
  by_cases h0 : j = 0
  · subst h0; exact Int.le_refl _
  · have := ih ((j - 1) / 2) (by omega) (by omega)
    have := h j (by omega) hj
    omega

/-- What 'Push' leaves. -/
def pushL (l : List Item) (x : Item) : List Item := upL (l ++ [x]) l.length
theorem push_spec {l : List Item} {x : Item} (h : HP l l.length) : (pushL l x).Perm (x :: l) ∧ (pushL l x).length = l.length + 1 ∧ HP (pushL l x) (pushL l x).length := by
  obtain ⟨a, b, c⟩ := up_spec l.length (l ++ [x]) (by simp)
  have hv : ∀ k, k < l.length → vl (l ++ [x]) k = vl l k := fun k hk => by simp [vl, at_, List.getElem?_append_left hk]
  have hp : (pushL l x).Perm (x :: l) := a.trans List.perm_append_comm
  have hl : (pushL l x).length = l.length + 1 := b.trans (by simp)
  refine ⟨hp, hl, ?_⟩
  rw [hl]
  have := c (fun k hk hl hne => ?_) (fun k hk hl he h0 => ?_)
  · rw [List.length_append, List.length_singleton] at this; exact this
  · simp only [List.length_append, List.length_singleton] at hl
    rw [hv _ (by omega), hv _ (by omega)]; exact h k hk (by omega)
  · simp only [List.length_append, List.length_singleton] at hl; omega

/-- What 'Pop' leaves in the row ahead of the last step: the least item is the last one. -/
def popL (l : List Item) : List Item := downL (swapL l 0 (l.length - 1)) 0 (l.length - 1)
theorem pop_spec {l : List Item} (h : HP l l.length) (h0 : 0 < l.length) : (popL l).length = l.length ∧ at_ (popL l) (l.length - 1) = at_ l 0 ∧
    l.Perm (at_ l 0 :: (popL l).take (l.length - 1)) ∧ HP ((popL l).take (l.length - 1)) (l.length - 1) ∧ ∀ x ∈ l, (at_ l 0).2 ≤ x.2 := by
  have hs : l.length - 1 < l.length := by omega
  obtain ⟨a, b, c, d⟩ := down_spec _ (l.length - 1) 0 (swapL l 0 (l.length - 1)) rfl (by rw [swapL_length]; omega) (by rw [swapL_length]; exact h0)
  rw [swapL_length] at b
  have hlast : at_ (popL l) (l.length - 1) = at_ l 0 := by
    unfold popL
    rw [c _ (Nat.le_refl _), at_swap h0 hs, if_pos rfl]
  have hlen : (popL l).length = l.length := b
  have hperm : (popL l).Perm l := a.trans (swapL_perm h0 hs)
  have hsplit : popL l = (popL l).take (l.length - 1) ++ [at_ l 0] := by
    apply List.ext_getElem?
    intro k
    by_cases hk : k < l.length - 1
    · rw [List.getElem?_append_left (by simp [hlen]; omega), List.getElem?_take, if_pos hk]
    · rw [List.getElem?_append_right (by simp [hlen]; omega)]
      simp only [List.length_take, hlen]
      by_cases hk2 : k = l.length - 1
      · subst hk2
        rw [Nat.min_eq_left (by omega), Nat.sub_self, at_get (by omega), hlast]; rfl
      · rw [List.getElem?_eq_none (by omega), List.getElem?_eq_none (by simp; omega)]
  refine ⟨hlen, hlast, ?_, ?_, ?_⟩
  · refine hperm.symm.trans ?_
    conv => lhs; rw [hsplit]
    exact List.perm_append_comm
  · have hd : HP (popL l) (l.length - 1) := d (fun k hk hl hne => ?_) (fun k hk hl he h => absurd h (Nat.lt_irrefl 0))
    · intro k hk hl
      have e : ∀ k, k < l.length - 1 → vl ((popL l).take (l.length - 1)) k = vl (popL l) k := fun k hk => by simp [vl, at_, hk]
      rw [e _ hl, e _ (by omega)]; exact hd k hk hl
    · rw [vl_swap h0 hs, vl_swap h0 hs, if_neg (by omega), if_neg (by omega), if_neg (by omega), if_neg (by omega)]
      exact h k hk (by omega)
  · intro x hx
    obtain ⟨j, hj, rfl⟩ := List.getElem_of_mem hx
    have := h.root j hj
    simpa [vl, at_, hj] using this

end Go.Fw.Heap

/- What the program's functions do: the heap of items, its methods. -/
namespace Go.Fw
open Go Go.Proofs Heap
set_option maxRecDepth 10000

def tIt (x : Heap.Item) : List T := [.v (.int .i64 x.1), .v (.int .i64 x.2)]
abbrev rowQ (l : List Heap.Item) : Ob := .row 83 2 (l.map tIt)
abbrev boxQ (n : Nat) : Ob := .box [.osl (.cur 3) 2 0 n]

theorem f48_spec (l : List Heap.Item) (n : Nat) : SpecM Tryz.prog 48 [.osl (.cur 3) 2 0 n] [(3, rowQ l)] [(3, 2)] fun r ro => r = .int n ∧ ro = [(3, rowQ l)] := by
  refine specM_walk cxm_ok mH_ok [] [] (fn := Tryz.f48) (by kernel_rfl) rfl (by kernel_rfl) rfl (by unfold FnOK; kernel_rfl) rfl fun hok => ?_
  exact ⟨rfl, [3], rfl, rfl⟩

def oq126 : Od := [(1, [(0, .pure), (1, .pure), (2, .pure), (3, .pure), (4, .pure), (5, .pure), (6, .pure), (7, .pure), (8, .pure), (9, .pure), (10, .pure), (11, .pure)])]
theorem at_map {l : List Heap.Item} {i : Nat} (h : i < l.length) : (l.map tIt)[i]? = some (tIt (at_ l i)) := by rw [List.getElem?_map, at_get h]; rfl
theorem f126_spec (l : List Heap.Item) (n i j : Nat) (hi : i < n) (hj : j < n) (hn : n ≤ l.length) : SpecM Tryz.prog 126 [.osl (.cur 3) 2 0 n, .int i, .int j] [(3, rowQ l)] [(3, 2)] fun r ro => r = .bool (decide (vl l i < vl l j)) ∧ ro = [(3, rowQ l)] := by
  refine specM_walk cxm_ok mH_ok [] oq126 (fn := Tryz.f126) (by kernel_rfl) rfl (by kernel_rfl) rfl (by unfold FnOK; kernel_rfl) rfl fun hok => ?_
  refine And.intro (by omega) (And.intro (by omega) ?_)
  refine Exists.intro _ (And.intro (by rw [Nat.zero_add]; exact at_map (by omega)) ?_)
  refine And.intro (by omega) (And.intro (by omega) ?_)
  refine Exists.intro _ (And.intro (by rw [Nat.zero_add]; exact at_map (by omega)) ?_)
  refine And.intro (fun h => ?_) fun h => ?_
  · exact ⟨rfl, [3], congrArg (fun b => LV.t (.v (.bool b))) h.symm, rfl⟩
  · exact ⟨rfl, [3], congrArg (fun b => LV.t (.v (.bool b))) h.symm, rfl⟩

theorem set_map {l : List Heap.Item} {i : Nat} {x : Heap.Item} : (l.map tIt).set i (tIt x) = (l.set i x).map tIt := by rw [List.map_set]
def oq129 : Od := [(0, [(0, .tree (.pure 0 (.pure 1 (.pure 2 (.pure 3 (.pure 4 (.pure 5 (.pure 6 (.pure 7 (.pure 8 (.pure 9 (.pure 10 (.pure 11 (.pure 12 (.last 13 (.pure 14 (.last 15 .done [])) [2, 3])))))))))))))))])]
theorem f129_spec (l : List Heap.Item) (n i j : Nat) (hi : i < n) (hj : j < n) (hn : n ≤ l.length) : SpecM Tryz.prog 129 [.osl (.cur 3) 2 0 n, .int i, .int j] [(3, rowQ l)] [(3, 2)] fun r ro => r = .tup [] ∧ ro = [(3, rowQ (swapL l i j))] := by
  refine specM_walk cxm_ok mH_ok [] oq129 (fn := Tryz.f129) (by kernel_rfl) rfl (by kernel_rfl) rfl (by unfold FnOK; kernel_rfl) rfl fun hok => ?_
  refine And.intro (by omega) (And.intro (by omega) ?_)
  refine Exists.intro _ (And.intro (by rw [Nat.zero_add]; exact at_map (by omega)) ?_)
  refine And.intro (by exact Nat.le_refl _) ?_
  refine And.intro (by omega) (And.intro (by omega) ?_)
  refine Exists.intro _ (And.intro (by rw [Nat.zero_add]; exact at_map (by omega)) ?_)
  refine And.intro (by exact Nat.le_refl _) ?_
  refine And.intro (by omega) (And.intro (by omega) ?_)
  refine Exists.intro _ (And.intro (by rw [Nat.zero_add]; exact at_map (by omega)) (And.intro (Nat.le_refl _) ?_))
  refine And.intro rfl (And.intro rfl ?_)
  refine And.intro (by omega) (And.intro (by omega) ?_)
  refine Exists.intro (tIt (at_ (l.set i (at_ l j)) j)) (And.intro ?_ (And.intro (Nat.le_refl _) ?_))
  · show ((l.map tIt).set (0 + i) (tIt (at_ l j)))[0 + j]? = _
    rw [Nat.zero_add, Nat.zero_add, set_map]; exact at_map (by simp; omega)
  refine ⟨rfl, [3], rfl, ?_⟩
  show [(3, Ob.row 83 2 (((l.map tIt).set (0 + i) (tIt (at_ l j))).set (0 + j) (tIt (at_ l i))))] = _
  rw [Nat.zero_add, Nat.zero_add, set_map, set_map]; rfl

abbrev ifcQ (x : Heap.Item) : LV := .ifc 83 (.agg [.int x.1, .int x.2])
def oq128 : Od := [(2, [(0, .tree (.pure 0 (.pure 1 (.pure 2 (.pure 3 (.pure 4 (.pure 5 (.eff 6 (.last 7 (.pure 8 (.pure 9 (.last 10 .done []))) [0, 1])))))))))])]
theorem f128_spec (l : List Heap.Item) (n : Nat) (x : Heap.Item) (hn : n ≤ l.length) (hb : n ≤ 1000000000000) : SpecM Tryz.prog 128 [.ptr (.cur 1) 0, ifcQ x] [(1, boxQ n), (3, rowQ l)] [(1, 1)] fun r ro => r = .tup [] ∧ ro = [(1, boxQ (n + 1)), (3, rowQ (l.take n ++ [x]))] := by
  refine specM_walk cxm_ok mH_ok [] oq128 (fn := Tryz.f128) (by kernel_rfl) rfl (by kernel_rfl) rfl (by unfold FnOK; kernel_rfl) rfl fun hok => ?_
  refine And.intro (fun _ => ?_) fun h => Bool.noConfusion h
  have hlen : ((l.map tIt).take n ++ [tIt x]).length = n + 1 := by simp; omega
  refine And.intro (Nat.le_refl 1) (And.intro (by rw [List.length_map]; exact hn) (And.intro ?_ (And.intro ?_ ?_)))
  · show ((l.map tIt).take n ++ [tIt x]).length * 16 ≤ 140737488355328
    omega
  · show ((l.map tIt).take n ++ [tIt x]).length ≤ 140737488355328
    omega
  refine And.intro rfl (And.intro rfl ?_)
  refine ⟨rfl, [1, 3], rfl, ?_⟩
  show [(1, Ob.box [.osl (.cur 3) 2 0 ((l.map tIt).take n ++ [tIt x]).length]), (3, Ob.row 83 2 ((l.map tIt).take n ++ [tIt x]))] = _
  rw [hlen]
  simp only [rowQ, List.map_append, List.map_take, List.map_cons, List.map_nil]

theorem f127_spec (l : List Heap.Item) (n : Nat) (h0 : 0 < n) (hn : n ≤ l.length) (hb : n ≤ 1000000000000) : SpecM Tryz.prog 127 [.ptr (.cur 1) 0] [(1, boxQ n), (3, rowQ l)] [(1, 1)] fun r ro => r = ifcQ (at_ l (n - 1)) ∧ ro = [(1, boxQ (n - 1)), (3, rowQ l)] := by
  refine specM_walk cxm_ok mH_ok [] [] (fn := Tryz.f127) (by kernel_rfl) rfl (by kernel_rfl) rfl (by unfold FnOK; kernel_rfl) rfl fun hok => ?_
  refine And.intro (by omega) (And.intro (by omega) ?_)
  have e1 : ((n : Int) - 1).toNat = n - 1 := by omega
  refine And.intro (by omega) (And.intro (by omega) ?_)
  have e2 : (l.map tIt)[0 + ((n : Int) - 1).toNat]? = some (tIt (at_ l (n - 1))) := by rw [Nat.zero_add, e1]; exact at_map (by omega)
  refine Exists.intro _ (And.intro e2 ?_)
  refine And.intro (by exact Nat.le_refl _) ?_
  refine And.intro (Int.le_refl 0) (And.intro (by show (0 : Int) ≤ (n : Int) - 1; omega) (And.intro (by show (n : Int) - 1 ≤ n; omega) ?_))
  refine ⟨rfl, [1, 3], rfl, ?_⟩
  show [(1, Ob.box [.osl (.cur 3) 2 0 ((n : Int) - 1).toNat]), (3, rowQ l)] = _
  rw [e1]

end Go.Fw

/- What the program's functions do: the heap of items, up and down. -/
namespace Go.Fw
open Go Go.Proofs Heap
set_option maxRecDepth 10000

theorem m_len : MthV Tryz.prog 81 "Len" 48 85 := fun a w => by kernel_rfl
theorem m_less : MthV Tryz.prog 81 "Less" 126 85 := fun a w => by kernel_rfl
theorem m_swap : MthV Tryz.prog 81 "Swap" 129 85 := fun a w => by kernel_rfl
theorem m_pop : MthP Tryz.prog 81 "Pop" 127 := fun a w => by kernel_rfl
theorem m_push : MthP Tryz.prog 81 "Push" 128 := fun a w => by kernel_rfl

abbrev hQ : LV := .ifc 81 (.ptr (.cur 1) 0)
def kq76 : Kp := [(0, ([0, 1], [1, 3]))]
theorem f72_spec (l : List Heap.Item) (m j : Nat) (hm : l.length = m) (hj : j < m) (hb : m ≤ 1000000000000) : SpecM Tryz.prog 72 [hQ, .int j] [(1, boxQ m), (3, rowQ l)] [(1, 1)] fun r ro => r = .tup [] ∧ ro = [(1, boxQ m), (3, rowQ (upL l j))] := by
  subst hm
  refine specM_walk cxm_ok mH_ok kq76 [] (fn := Tryz.f72) (by kernel_rfl) rfl (by kernel_rfl) rfl (by unfold FnOK; kernel_rfl) rfl fun hok => ?_
  refine LoopX.mk (List Heap.Item × Nat) (fun p => p.1.length = l.length ∧ p.2 < l.length ∧ upL p.1 p.2 = upL l j) (fun p => [(0, hQ), (1, .int p.2), (1000001, .osl (.cur 1) 1 0 0)]) (fun p => ⟨[], [(1, boxQ l.length), (3, rowQ p.1)]⟩) (fun p => p.2) (l, j) ⟨rfl, hj, rfl⟩ ⟨rfl, rfl⟩ fun p hI => ?_
  obtain ⟨q, k⟩ := p
  obtain ⟨h1, h2, h3⟩ := hI
  simp only at h1 h2 h3
  refine And.intro (by omega) (And.intro (by omega) ?_)
  refine And.intro (by omega) ?_
  have e1 : ((k : Int) - 1).tdiv 2 = (((k - 1) / 2 : Nat) : Int) := by
    cases k with
    | zero => rfl
    | succ k =>
      rw [show ((k + 1 : Nat) : Int) - 1 = (k : Int) by omega, Nat.add_sub_cancel]
      rfl
  show arW cxm.wrap .i64 (((k : Int) - 1).tdiv 2) _
  rw [e1]
  refine And.intro (by omega) (And.intro (by omega) ?_)
  refine And.intro (fun h => ?_) fun h => ?_
  · have hk : k = 0 := by have := eq_of_beq h; simp only at this; omega
    refine ⟨rfl, [1, 3], rfl, ?_⟩
    subst hk
    rw [upL] at h3
    rw [← h3]; rfl
  · have hk : k ≠ 0 := by rintro rfl; simp at h
    refine InvH.val 126 85 m_less ?_
    refine ModH.mk [(3, 3)] (f126_spec q l.length k ((k - 1) / 2) h2 (by omega) (by omega)) rfl rfl ⟨rfl, trivial⟩ ?_
    rintro _ _ ⟨rfl, rfl⟩
    refine And.intro rfl ?_
    refine And.intro (fun h => ?_) fun h => ?_
    · have h := of_decide_eq_true h
      refine InvH.val 129 85 m_swap ?_
      refine ModH.mk [(3, 3)] (f129_spec q l.length ((k - 1) / 2) k (by omega) h2 (by omega)) rfl rfl ⟨rfl, trivial⟩ ?_
      rintro _ _ ⟨rfl, rfl⟩
      refine And.intro rfl ?_
      refine Exists.intro (swapL q ((k - 1) / 2) k, (k - 1) / 2) (And.intro (by show (k - 1) / 2 < k; omega) (And.intro ⟨by rw [swapL_length]; exact h1, by show (k - 1) / 2 < l.length; omega, ?_⟩ (And.intro rfl rfl)))
      rw [upL, dif_neg hk, if_pos h] at h3
      exact h3
    · have h := of_decide_eq_false h
      refine ⟨rfl, [1, 3], rfl, ?_⟩
      rw [upL, dif_neg hk, if_neg h] at h3
      rw [← h3]

def kq72 : Kp := [(2, ([0, 1, 2, 7], [1, 3]))]
theorem f67_spec (l : List Heap.Item) (m i0 n : Nat) (hm : l.length = m) (hi : i0 < m) (hn : n ≤ m) (hb : m ≤ 1000000000000) :
    SpecM Tryz.prog 67 [hQ, .int i0, .int n] [(1, boxQ m), (3, rowQ l)] [(1, 1)] fun r ro => (∃ b, r = .bool b) ∧ ro = [(1, boxQ m), (3, rowQ (downL l i0 n))] := by
  subst hm
  refine specM_walk cxm_ok mH_ok kq72 [] (fn := Tryz.f67) (by kernel_rfl) rfl (by kernel_rfl) rfl (by unfold FnOK; kernel_rfl) rfl fun hok => ?_
  refine LoopX.mk (List Heap.Item × Nat) (fun p => p.1.length = l.length ∧ p.2 < l.length ∧ downL p.1 p.2 n = downL l i0 n) (fun p => [(0, hQ), (1, .int i0), (2, .int n), (7, .int p.2), (1000001, .osl (.cur 1) 1 0 0)]) (fun p => ⟨[], [(1, boxQ l.length), (3, rowQ p.1)]⟩) (fun p => n - p.2) (l, i0) ⟨rfl, hi, rfl⟩ ⟨rfl, rfl⟩ fun p hI => ?_
  obtain ⟨q, k⟩ := p
  obtain ⟨h1, h2, h3⟩ := hI
  simp only at h1 h2 h3
  refine And.intro (by omega) (And.intro (by omega) ?_)
  refine And.intro (by omega) (And.intro (by omega) ?_)
  have e1 : (2 : Int) * (k : Int) + 1 = ((2 * k + 1 : Nat) : Int) := by omega
  rw [show (2 : Int) * ((q, k).2 : Int) + 1 = ((2 * k + 1 : Nat) : Int) from e1]
  refine And.intro (fun h => ?_) fun h => ?_
  · have h := of_decide_eq_true h
    rw [downL, dif_neg (by omega)] at h3
    refine And.intro (fun _ => ?_) fun _ => ?_ <;> exact ⟨rfl, [1, 3], ⟨_, rfl⟩, by rw [← h3]⟩
  have h4 := of_decide_eq_false h
  clear h
  refine And.intro (fun h => ?_) fun h => ?_
  · have h := of_decide_eq_true h; omega
  clear h
  refine And.intro (by omega) (And.intro (by omega) ?_)
  rw [show ((2 * k + 1 : Nat) : Int) + 1 = ((2 * k + 2 : Nat) : Int) by omega]
  refine And.intro (fun h => ?_) fun h => ?_
  · have h5 := of_decide_eq_true h
    clear h
    refine InvH.val 126 85 m_less ?_
    refine ModH.mk [(3, 3)] (f126_spec q l.length (2 * k + 2) (2 * k + 1) (by omega) (by omega) (by omega)) rfl rfl ⟨rfl, trivial⟩ ?_
    rintro _ _ ⟨rfl, rfl⟩
    refine And.intro rfl ?_
    refine And.intro (fun h => ?_) fun h => ?_
    · have h6 := of_decide_eq_true h
      clear h
      refine InvH.val 126 85 m_less ?_
      refine ModH.mk [(3, 3)] (f126_spec q l.length (2 * k + 2) k (by omega) h2 (by omega)) rfl rfl ⟨rfl, trivial⟩ ?_
      rintro _ _ ⟨rfl, rfl⟩
      refine And.intro rfl ?_
      have hc : kid q k n = 2 * k + 2 := by unfold kid; rw [if_pos ⟨by omega, h6⟩]
      refine And.intro (fun h => ?_) fun h => ?_
      · have h := of_decide_eq_true h
        refine InvH.val 129 85 m_swap ?_
        refine ModH.mk [(3, 3)] (f129_spec q l.length k (2 * k + 2) h2 (by omega) (by omega)) rfl rfl ⟨rfl, trivial⟩ ?_
        rintro _ _ ⟨rfl, rfl⟩
        refine And.intro rfl ?_
        refine Exists.intro (swapL q k (2 * k + 2), 2 * k + 2) (And.intro (by show n - (2 * k + 2) < n - k; omega) (And.intro ⟨by rw [swapL_length]; exact h1, by show 2 * k + 2 < l.length; omega, ?_⟩ (And.intro rfl rfl)))
        rw [downL, dif_pos (by omega), hc, if_pos h] at h3
        exact h3
      · have h := of_decide_eq_false h
        rw [downL, dif_pos (by omega), hc, if_neg h] at h3
        refine And.intro (fun _ => ?_) fun _ => ?_ <;> exact ⟨rfl, [1, 3], ⟨_, rfl⟩, by rw [← h3]⟩
    · have h6 := of_decide_eq_false h
      clear h
      refine InvH.val 126 85 m_less ?_
      refine ModH.mk [(3, 3)] (f126_spec q l.length (2 * k + 1) k (by omega) h2 (by omega)) rfl rfl ⟨rfl, trivial⟩ ?_
      rintro _ _ ⟨rfl, rfl⟩
      refine And.intro rfl ?_
      have hc : kid q k n = 2 * k + 1 := by unfold kid; rw [if_neg fun h => h6 h.2]
      refine And.intro (fun h => ?_) fun h => ?_
      · have h := of_decide_eq_true h
        refine InvH.val 129 85 m_swap ?_
        refine ModH.mk [(3, 3)] (f129_spec q l.length k (2 * k + 1) h2 (by omega) (by omega)) rfl rfl ⟨rfl, trivial⟩ ?_
        rintro _ _ ⟨rfl, rfl⟩
        refine And.intro rfl ?_
        refine Exists.intro (swapL q k (2 * k + 1), 2 * k + 1) (And.intro (by show n - (2 * k + 1) < n - k; omega) (And.intro ⟨by rw [swapL_length]; exact h1, by show 2 * k + 1 < l.length; omega, ?_⟩ (And.intro rfl rfl)))
        rw [downL, dif_pos (by omega), hc, if_pos h] at h3
        exact h3
      · have h := of_decide_eq_false h
        rw [downL, dif_pos (by omega), hc, if_neg h] at h3
        refine And.intro (fun _ => ?_) fun _ => ?_ <;> exact ⟨rfl, [1, 3], ⟨_, rfl⟩, by rw [← h3]⟩
  · have h5 := of_decide_eq_false h
    clear h
    refine InvH.val 126 85 m_less ?_
    refine ModH.mk [(3, 3)] (f126_spec q l.length (2 * k + 1) k (by omega) h2 (by omega)) rfl rfl ⟨rfl, trivial⟩ ?_
    rintro _ _ ⟨rfl, rfl⟩
    refine And.intro rfl ?_
    have hc : kid q k n = 2 * k + 1 := by unfold kid; rw [if_neg fun h => absurd h.1 (by omega)]
    refine And.intro (fun h => ?_) fun h => ?_
    · have h := of_decide_eq_true h
      refine InvH.val 129 85 m_swap ?_
      refine ModH.mk [(3, 3)] (f129_spec q l.length k (2 * k + 1) h2 (by omega) (by omega)) rfl rfl ⟨rfl, trivial⟩ ?_
      rintro _ _ ⟨rfl, rfl⟩
      refine And.intro rfl ?_
      refine Exists.intro (swapL q k (2 * k + 1), 2 * k + 1) (And.intro (by show n - (2 * k + 1) < n - k; omega) (And.intro ⟨by rw [swapL_length]; exact h1, by show 2 * k + 1 < l.length; omega, ?_⟩ (And.intro rfl rfl)))
      rw [downL, dif_pos (by omega), hc, if_pos h] at h3
      exact h3
    · have h := of_decide_eq_false h
      rw [downL, dif_pos (by omega), hc, if_neg h] at h3
      refine And.intro (fun _ => ?_) fun _ => ?_ <;> exact ⟨rfl, [1, 3], ⟨_, rfl⟩, by rw [← h3]⟩

end Go.Fw

/- What the program's functions do: the queue of items. -/
namespace Go.Fw
open Go Go.Proofs Heap
set_option maxRecDepth 10000

abbrev frQ (l : List Heap.Item) : Fr := [(1, boxQ l.length), (3, rowQ l)]
theorem f128s_spec (l : List Heap.Item) (x : Heap.Item) (hb : l.length ≤ 1000000000000) : SpecM Tryz.prog 128 [.ptr (.cur 1) 0, ifcQ x] (frQ l) [(1, 1)] fun r ro => r = .tup [] ∧ ro = frQ (l ++ [x]) :=
  (f128_spec l l.length x (Nat.le_refl _) hb).mono fun r ro ⟨h1, h2⟩ => ⟨h1, by rw [h2, List.take_length]; simp [frQ]⟩
theorem f127s_spec (l : List Heap.Item) (h0 : 0 < l.length) (hb : l.length ≤ 1000000000000) : SpecM Tryz.prog 127 [.ptr (.cur 1) 0] (frQ l) [(1, 1)] fun r ro => r = ifcQ (at_ l (l.length - 1)) ∧ ro = frQ (l.take (l.length - 1)) :=
  (f127_spec l l.length h0 (Nat.le_refl _) hb).trunc fun r ro ⟨h1, h2⟩ => ⟨3, 83, 2, l.map tIt, l.length - 1, by rw [h2]; rfl, h1, by
    rw [h2]
    show [(1, boxQ (l.length - 1)), (3, Ob.row 83 2 ((l.map tIt).take (l.length - 1)))] = [(1, boxQ (l.take (l.length - 1)).length), (3, rowQ (l.take (l.length - 1)))]
    rw [List.length_take, Nat.min_eq_left (by omega)]
    simp only [rowQ, List.map_take]⟩

theorem f52_spec (l : List Heap.Item) (x : Heap.Item) (hb : l.length < 1000000000000) : SpecM Tryz.prog 52 [hQ, ifcQ x] (frQ l) [(1, 1)] fun r ro => r = .tup [] ∧ ro = frQ (pushL l x) := by
  refine specM_walk cxm_ok mH_ok [] [] (fn := Tryz.f52) (by kernel_rfl) rfl (by kernel_rfl) rfl (by unfold FnOK; kernel_rfl) rfl fun hok => ?_
  refine InvH.ptr 128 m_push ?_
  refine ModH.mk [(1, 1), (3, 3)] (f128s_spec l x (by omega)) rfl rfl ⟨rfl, rfl, trivial⟩ ?_
  rintro _ _ ⟨rfl, rfl⟩
  refine And.intro rfl ?_
  refine InvH.val 48 85 m_len ?_
  refine ModH.mk [(3, 3)] (f48_spec (l ++ [x]) (l ++ [x]).length) rfl rfl ⟨rfl, trivial⟩ ?_
  rintro _ _ ⟨rfl, rfl⟩
  refine And.intro rfl ?_
  have hl : (l ++ [x]).length = l.length + 1 := by simp
  refine And.intro (by omega) (And.intro (by omega) ?_)
  rw [show (((l ++ [x]).length : Nat) : Int) - 1 = (l.length : Int) by omega]
  refine ModH.mk [(1, 1), (3, 3)] (f72_spec (l ++ [x]) (l ++ [x]).length l.length rfl (by omega) (by omega)) rfl rfl ⟨rfl, rfl, trivial⟩ ?_
  rintro _ _ ⟨rfl, rfl⟩
  refine And.intro rfl ?_
  refine ⟨rfl, [1, 3], rfl, ?_⟩
  obtain ⟨_, h, _⟩ := up_spec l.length (l ++ [x]) (by omega)
  show [(1, boxQ (l ++ [x]).length), (3, rowQ (upL (l ++ [x]) l.length))] = [(1, boxQ (pushL l x).length), (3, rowQ (pushL l x))]
  rw [pushL, h]

theorem f49_spec (l : List Heap.Item) (h0 : 0 < l.length) (hb : l.length ≤ 1000000000000) : SpecM Tryz.prog 49 [hQ] (frQ l) [(1, 1)] fun r ro => r = ifcQ (at_ (popL l) (l.length - 1)) ∧ ro = frQ ((popL l).take (l.length - 1)) := by
  refine specM_walk cxm_ok mH_ok [] [] (fn := Tryz.f49) (by kernel_rfl) rfl (by kernel_rfl) rfl (by unfold FnOK; kernel_rfl) rfl fun hok => ?_
  refine InvH.val 48 85 m_len ?_
  refine ModH.mk [(3, 3)] (f48_spec l l.length) rfl rfl ⟨rfl, trivial⟩ ?_
  rintro _ _ ⟨rfl, rfl⟩
  refine And.intro rfl ?_
  refine And.intro (by omega) (And.intro (by omega) ?_)
  rw [show ((l.length : Nat) : Int) - 1 = ((l.length - 1 : Nat) : Int) by omega]
  refine InvH.val 129 85 m_swap ?_
  refine ModH.mk [(3, 3)] (f129_spec l l.length 0 (l.length - 1) h0 (by omega) (Nat.le_refl _)) rfl rfl ⟨rfl, trivial⟩ ?_
  rintro _ _ ⟨rfl, rfl⟩
  refine And.intro rfl ?_
  refine ModH.mk [(1, 1), (3, 3)] (f67_spec (swapL l 0 (l.length - 1)) l.length 0 (l.length - 1) (swapL_length ..) h0 (by omega) hb) rfl rfl ⟨rfl, rfl, trivial⟩ ?_
  rintro _ _ ⟨⟨b, rfl⟩, rfl⟩
  refine And.intro rfl ?_
  obtain ⟨_, h1, _⟩ := down_spec _ (l.length - 1) 0 (swapL l 0 (l.length - 1)) rfl (by rw [swapL_length]; omega) (by rw [swapL_length]; exact h0)
  rw [swapL_length] at h1
  have h1 : (popL l).length = l.length := h1
  have hp := f127s_spec (popL l) (by rw [h1]; exact h0) (by rw [h1]; exact hb)
  rw [h1] at hp
  have hfr : frQ (popL l) = [(1, boxQ l.length), (3, rowQ (popL l))] := by simp only [frQ, h1]
  rw [hfr] at hp
  refine And.intro (fun _ => ?_) fun _ => ?_
  · refine InvH.ptr 127 m_pop ?_
    refine ModH.mk [(1, 1), (3, 3)] hp rfl rfl ⟨rfl, rfl, trivial⟩ ?_
    rintro _ _ ⟨rfl, rfl⟩
    refine And.intro rfl ?_
    exact ⟨rfl, [1, 3], rfl, rfl⟩
  · refine InvH.ptr 127 m_pop ?_
    refine ModH.mk [(1, 1), (3, 3)] hp rfl rfl ⟨rfl, rfl, trivial⟩ ?_
    rintro _ _ ⟨rfl, rfl⟩
    refine And.intro rfl ?_
    exact ⟨rfl, [1, 3], rfl, rfl⟩

end Go.Fw

/- Cheapest ways in graphs: what a search with a queue keeps, and what it ends with. -/
namespace Go.Fw.Dij
open Go.Fw.Heap Go.Fw

variable {α : Type} {E : α → List (Int × α)}

/-- A way and what it costs. -/
inductive Pth (E : α → List (Int × α)) : α → Int → α → Prop
  | nil (s : α) : Pth E s 0 s
  | cons {s s' s'' : α} {c d : Int} (h : (c, s') ∈ E s) (p : Pth E s' d s'') : Pth E s (c + d) s''

theorem Pth.snoc {s s' s'' : α} {d c : Int} (p : Pth E s d s') (h : (c, s'') ∈ E s') : Pth E s (d + c) s'' := by
  induction p with
  | nil s => have := Pth.cons h (.nil s''); rwa [Int.add_comm] at this
  | cons h0 _ ih => have := Pth.cons h0 (ih h); rwa [← Int.add_assoc] at this
theorem Pth.trans {s s' s'' : α} {d c : Int} (p : Pth E s d s') (q : Pth E s' c s'') : Pth E s (d + c) s'' := by
  induction p with
  | nil s => rwa [Int.zero_add]
  | cons h0 _ ih => have := Pth.cons h0 (ih q); rwa [← Int.add_assoc] at this
theorem Pth.nonneg (hc : ∀ s, ∀ e ∈ E s, 0 ≤ e.1) {s s' : α} {d : Int} (p : Pth E s d s') : 0 ≤ d := by
  induction p with
  | nil s => exact Int.le_refl 0
  | cons h0 _ ih => have := hc _ _ h0; simp only at this; omega

/-- The nodes that are reached from one are listed, each once. -/
structure Whole (E : α → List (Int × α)) (s0 : α) (S : List α) : Prop where
  nodup : S.Nodup
  root : s0 ∈ S
  reach : ∀ s ∈ S, ∃ d, Pth E s0 d s
  closed : ∀ s ∈ S, ∀ e ∈ E s, e.2 ∈ S

theorem Whole.mem {s0 : α} {S : List α} (h : Whole E s0 S) {s : α} {d : Int} (p : Pth E s0 d s) : s ∈ S := by
  have : ∀ {a b : α} {d : Int}, Pth E a d b → a ∈ S → b ∈ S := by
    intro a b d p
    induction p with
    | nil s => exact id
    | cons h0 _ ih => exact fun ha => ih (h.closed _ ha _ h0)
  exact this p h.root
theorem Whole.perm {s0 : α} {S S' : List α} (h : Whole E s0 S) (h' : Whole E s0 S') : S.Perm S' := by
  classical
  refine (List.perm_ext_iff_of_nodup h.nodup h'.nodup).2 fun s => ⟨fun hs => ?_, fun hs => ?_⟩
  · obtain ⟨d, p⟩ := h.reach s hs; exact h'.mem p
  · obtain ⟨d, p⟩ := h'.reach s hs; exact h.mem p
theorem nodup_sub {S S' : List α} (hS : S.Nodup) (h : ∀ s ∈ S, s ∈ S') : S.length ≤ S'.length := by
  classical
  induction S generalizing S' with
  | nil => exact Nat.zero_le _
  | cons x r ih =>
    obtain ⟨h1, h2⟩ := List.nodup_cons.1 hS
    have hx := h x (List.mem_cons_self ..)
    have := ih (S' := S'.erase x) h2 fun s hs => by
      have hne : s ≠ x := by rintro rfl; exact h1 hs
      exact (List.mem_erase_of_ne hne).2 (h s (List.mem_cons_of_mem _ hs))
    rw [List.length_erase_of_mem hx] at this
    have := List.length_pos_of_mem hx
    simp only [List.length_cons]; omega
theorem Whole.most {s0 : α} {S S' : List α} (h : Whole E s0 S) (hn : S'.Nodup) (hr : ∀ s ∈ S', ∃ d, Pth E s0 d s) : S'.length ≤ S.length :=
  nodup_sub hn fun s hs => let ⟨_, p⟩ := hr s hs; h.mem p

/-- The least cost of a way to a goal. -/
def Opt (E : α → List (Int × α)) (goal : α → Bool) (s0 : α) (c : Int) : Prop := (∃ s, goal s = true ∧ Pth E s0 c s) ∧ ∀ s d, goal s = true → Pth E s0 d s → c ≤ d
theorem Opt.uniq {goal : α → Bool} {s0 : α} {c c' : Int} (h : Opt E goal s0 c) (h' : Opt E goal s0 c') : c = c' := by
  obtain ⟨⟨s, g, p⟩, m⟩ := h
  obtain ⟨⟨s', g', p'⟩, m'⟩ := h'
  have := m _ _ g' p'; have := m' _ _ g p; omega

/-- What the search keeps: nodes S with what they are known to cost F, the queue Q, the nodes that are done, the last cost m, the best cost. -/
structure Inv (E : α → List (Int × α)) (goal : α → Bool) (C : Int) (s0 : α) (i0 : Option Nat) (ed : List (Int × α)) (S : List α) (F : List Int) (Q : List Heap.Item) (dn : List Nat) (m best : Int) : Prop where
  nodup : S.Nodup
  len : F.length = S.length
  root : S[0]? = some s0
  root0 : F[0]? = some 0
  real : ∀ (i : Nat) (s : α) (f : Int), S[i]? = some s → F[i]? = some f → Pth E s0 f s
  qok : ∀ x ∈ Q, ∃ (n : Nat) (f : Int), x.1 = n ∧ F[n]? = some f ∧ f ≤ x.2 ∧ m ≤ x.2 ∧ x.2 ≤ C * dn.length ∧ (n ∈ dn → f < x.2)
  qnd : Q.Nodup
  cover : ∀ (i : Nat) (f : Int), F[i]? = some f → i ∈ dn ∨ ((i : Int), f) ∈ Q
  dnlt : ∀ i ∈ dn, ∃ f, F[i]? = some f ∧ f ≤ m
  dnnd : dn.Nodup
  closed : ∀ i ∈ dn, ∀ (s : α) (f : Int), S[i]? = some s → F[i]? = some f → ∀ e ∈ (if some i = i0 then ed else E s), ∃ (j : Nat) (g : Int), S[j]? = some e.2 ∧ F[j]? = some g ∧ g ≤ f + e.1
  small : ∀ f ∈ F, f ≤ C * dn.length
  mpos : 0 ≤ m
  best : (best = -1 ∧ ∀ (i : Nat) (s : α), S[i]? = some s → goal s = true → i ∉ dn) ∨
    (0 ≤ best ∧ best ≤ m ∧ (∃ s, goal s = true ∧ Pth E s0 best s) ∧ ∀ (i : Nat) (s : α) (f : Int), S[i]? = some s → F[i]? = some f → goal s = true → best ≤ f)

section
variable {goal : α → Bool} {C : Int} {s0 : α} {i0 : Option Nat} {ed : List (Int × α)} {S : List α} {F : List Int} {Q Q' : List Heap.Item} {dn : List Nat} {m best : Int}

theorem Inv.perm (h : Inv E goal C s0 i0 ed S F Q dn m best) (p : Q.Perm Q') : Inv E goal C s0 i0 ed S F Q' dn m best :=
  { h with
    qok := fun x hx => h.qok x (p.mem_iff.2 hx)
    qnd := p.nodup_iff.1 h.qnd
    cover := fun i f hf => (h.cover i f hf).imp id p.mem_iff.1 }

theorem Inv.start : Inv E goal C s0 none [] [s0] [0] [(0, 0)] [] 0 (-1) where
  nodup := by simp
  len := rfl
  root := rfl
  root0 := rfl
  real := fun i s f hs hf => by
    cases i with
    | zero => simp at hs hf; subst hs; subst hf; exact .nil _
    | succ i => simp at hs
  qok := fun x hx => by simp at hx; subst hx; exact ⟨0, 0, rfl, rfl, Int.le_refl _, Int.le_refl _, by simp, fun h => by simp at h⟩
  qnd := by simp
  cover := fun i f hf => by
    cases i with
    | zero => simp at hf; subst hf; exact .inr (by simp)
    | succ i => simp at hf
  dnlt := fun i hi => by simp at hi
  dnnd := by simp
  closed := fun i hi => by simp at hi
  small := fun f hf => by simp at hf; subst hf; simp
  mpos := Int.le_refl _
  best := .inl ⟨rfl, fun i s _ _ h => by simp at h⟩

/-- An item that says more than is known is dropped. -/
theorem Inv.stale {x : Heap.Item} (h : Inv E goal C s0 none ed S F (x :: Q) dn m best) (hm : ∀ y ∈ Q, x.2 ≤ y.2) {n : Nat} {f : Int} (hn : x.1 = n) (hf : F[n]? = some f) (hlt : f < x.2) : Inv E goal C s0 none ed S F Q dn x.2 best := by
  obtain ⟨n', f', e1, e2, e3, e4, e5, e6⟩ := h.qok x (List.mem_cons_self ..)
  refine { h with
    qok := fun y hy => ?_
    qnd := (List.nodup_cons.1 h.qnd).2
    cover := fun i g hg => ?_
    dnlt := fun i hi => ?_
    mpos := Int.le_trans h.mpos e4
    best := ?_ }
  · obtain ⟨k, g, a1, a2, a3, a4, a5, a6⟩ := h.qok y (List.mem_cons_of_mem _ hy)
    exact ⟨k, g, a1, a2, a3, hm y hy, a5, a6⟩
  · rcases h.cover i g hg with h1 | h1
    · exact .inl h1
    · rcases List.mem_cons.1 h1 with h1 | h1
      · exfalso
        rw [← h1] at hn hlt
        simp only at hn hlt
        have : i = n := by omega
        subst this
        rw [hf] at hg; cases hg; omega
      · exact .inr h1
  · obtain ⟨g, a1, a2⟩ := h.dnlt i hi
    exact ⟨g, a1, Int.le_trans a2 e4⟩
  · rcases h.best with h1 | ⟨h1, h2, h3⟩
    · exact .inl h1
    · exact .inr ⟨h1, Int.le_trans h2 e4, h3⟩

/-- A node is taken out of the queue. -/
theorem Inv.live {x : Heap.Item} (hC : 0 ≤ C) (h : Inv E goal C s0 none ed S F (x :: Q) dn m best) (hm : ∀ y ∈ Q, x.2 ≤ y.2) {n : Nat} {f : Int} {s : α} (hn : x.1 = n) (hs : S[n]? = some s) (hf : F[n]? = some f) (hge : ¬ f < x.2) :
    f = x.2 ∧ n ∉ dn ∧ x.2 ≤ C * dn.length ∧ Inv E goal C s0 (some n) [] S F Q (n :: dn) x.2 (if best < 0 ∧ goal s = true then x.2 else best) := by
  obtain ⟨n', f', e1, e2, e3, e4, e5, e6⟩ := h.qok x (List.mem_cons_self ..)
  have hnn : n' = n := by omega
  subst hnn
  rw [hf] at e2
  cases e2
  have hfx : f = x.2 := by omega
  have hnd : n' ∉ dn := fun hd => by have := e6 hd; omega
  have hx : x = ((n' : Int), f) := by rw [← hn, hfx]
  have hnq : x ∉ Q := (List.nodup_cons.1 h.qnd).1
  have hle : C * dn.length ≤ C * ((n' :: dn).length : Nat) := Int.mul_le_mul_of_nonneg_left (by simp; omega) hC
  refine ⟨hfx, hnd, e5, { h with
    qok := fun y hy => ?_
    qnd := (List.nodup_cons.1 h.qnd).2
    cover := fun i g hg => ?_
    dnlt := fun i hi => ?_
    dnnd := List.nodup_cons.2 ⟨hnd, h.dnnd⟩
    closed := fun i hi s f h1 h2 e he => ?_
    small := fun f hf => Int.le_trans (h.small f hf) hle
    mpos := Int.le_trans h.mpos e4
    best := ?_ }⟩
  · obtain ⟨k, g, a1, a2, a3, a4, a5, a6⟩ := h.qok y (List.mem_cons_of_mem _ hy)
    refine ⟨k, g, a1, a2, a3, hm y hy, Int.le_trans a5 hle, fun hk => ?_⟩
    rcases List.mem_cons.1 hk with rfl | hk
    · rw [hf] at a2
      cases a2
      rcases Int.lt_or_eq_of_le a3 with h1 | h1
      · exact h1
      · exact absurd hy (by rw [show y = x by rw [hx, ← a1, h1]]; exact hnq)
    · exact a6 hk
  · rcases h.cover i g hg with h1 | h1
    · exact .inl (List.mem_cons_of_mem _ h1)
    · rcases List.mem_cons.1 h1 with h1 | h1
      · refine .inl ?_
        rw [← h1] at hn
        simp only at hn
        have : i = n' := by omega
        subst this; exact List.mem_cons_self ..
      · exact .inr h1
  · rcases List.mem_cons.1 hi with rfl | hi
    · exact ⟨f, hf, by omega⟩
    · obtain ⟨g, a1, a2⟩ := h.dnlt i hi
      exact ⟨g, a1, Int.le_trans a2 e4⟩
  · split at he
    · cases he
    · rename_i hne
      rcases List.mem_cons.1 hi with rfl | hi
      · exact absurd rfl hne
      · exact h.closed i hi s f h1 h2 e (by rw [if_neg (by simp)]; exact he)
  · have hx0 : 0 ≤ x.2 := Int.le_trans h.mpos e4
    split
    · rename_i hb
      rcases h.best with ⟨h1, h2⟩ | ⟨h1, _⟩
      · refine .inr ⟨hx0, Int.le_refl _, ⟨s, hb.2, by rw [← hfx]; exact h.real _ _ _ hs hf⟩, fun i s' g a1 a2 a3 => ?_⟩
        have hid := h2 i s' a1 a3
        rcases h.cover i g a2 with h3 | h3
        · exact absurd h3 hid
        · rcases List.mem_cons.1 h3 with h3 | h3
          · rw [← h3]; exact Int.le_refl _
          · have := hm _ h3; simpa using this
      · omega
    · rename_i hb
      rcases h.best with ⟨h1, h2⟩ | ⟨h1, h2, h3⟩
      · refine .inl ⟨h1, fun i s' a1 a3 hi => ?_⟩
        rcases List.mem_cons.1 hi with rfl | hi
        · rw [hs] at a1; cases a1
          exact hb ⟨by omega, a3⟩
        · exact h2 i s' a1 a3 hi
      · exact .inr ⟨h1, Int.le_trans h2 e4, h3⟩

variable {n : Nat} {s s' : α} {x c : Int}

/-- An edge leads to a new node. -/
theorem Inv.fresh (hc : 0 ≤ c) (h : Inv E goal C s0 (some n) ed S F Q dn x best) (hs : S[n]? = some s) (hf : F[n]? = some x) (he : (c, s') ∈ E s) (hx : x + c ≤ C * dn.length) (hnew : s' ∉ S) :
    Inv E goal C s0 (some n) (ed ++ [(c, s')]) (S ++ [s']) (F ++ [x + c]) (((S.length : Nat), x + c) :: Q) dn x best := by
  have hSl : ∀ (i : Nat) (g : Int), F[i]? = some g → i < S.length := fun i g hg => by rw [← h.len]; exact (List.getElem?_eq_some_iff.1 hg).1
  have hF : ∀ (i : Nat) (g : Int), F[i]? = some g → (F ++ [x + c])[i]? = some g := fun i g hg => by rw [List.getElem?_append_left (List.getElem?_eq_some_iff.1 hg).1]; exact hg
  have hS : ∀ (i : Nat) (g : α), S[i]? = some g → (S ++ [s'])[i]? = some g := fun i g hg => by rw [List.getElem?_append_left (List.getElem?_eq_some_iff.1 hg).1]; exact hg
  have hdl : ∀ i ∈ dn, i < S.length := fun i hi => let ⟨g, a1, _⟩ := h.dnlt i hi; hSl i g a1
  have hlast : (S ++ [s'])[S.length]? = some s' := by simp
  have hlastF : (F ++ [x + c])[S.length]? = some (x + c) := by rw [← h.len]; simp
  have inv : ∀ (i : Nat) (s2 : α) (f2 : Int), (S ++ [s'])[i]? = some s2 → (F ++ [x + c])[i]? = some f2 → (S[i]? = some s2 ∧ F[i]? = some f2) ∨ (i = S.length ∧ s2 = s' ∧ f2 = x + c) := by
    intro i s2 f2 h1 h2
    rcases Nat.lt_trichotomy i S.length with hi | hi | hi
    · rw [List.getElem?_append_left hi] at h1
      rw [List.getElem?_append_left (by rw [h.len]; exact hi)] at h2
      exact .inl ⟨h1, h2⟩
    · subst hi
      rw [hlast] at h1; rw [hlastF] at h2
      cases h1; cases h2
      exact .inr ⟨rfl, rfl, rfl⟩
    · rw [List.getElem?_eq_none (by simp; omega)] at h1; cases h1
  have hp := h.real n s x hs hf
  refine { h with
    nodup := ?_
    len := by simp [h.len]
    root := hS _ _ h.root
    root0 := hF _ _ h.root0
    real := fun i s2 f2 h1 h2 => ?_
    qok := fun y hy => ?_
    qnd := ?_
    cover := fun i f2 hf2 => ?_
    dnlt := fun i hi => let ⟨g, a1, a2⟩ := h.dnlt i hi; ⟨g, hF _ _ a1, a2⟩
    closed := fun i hi s2 f2 h1 h2 e2 he2 => ?_
    small := fun f2 hf2 => ?_
    best := ?_ }
  · rw [List.nodup_append]
    exact ⟨h.nodup, by simp, fun a ha b hb => by simp at hb; subst hb; rintro rfl; exact hnew ha⟩
  · rcases inv i s2 f2 h1 h2 with ⟨g1, g2⟩ | ⟨_, rfl, rfl⟩
    · exact h.real i s2 f2 g1 g2
    · exact hp.snoc he
  · rcases List.mem_cons.1 hy with rfl | hy
    · exact ⟨S.length, x + c, rfl, hlastF, Int.le_refl _, by simp; omega, hx, fun hd => absurd (hdl _ hd) (Nat.lt_irrefl _)⟩
    · obtain ⟨k, g, a1, a2, a3⟩ := h.qok y hy
      exact ⟨k, g, a1, hF _ _ a2, a3⟩
  · refine List.nodup_cons.2 ⟨fun hq => ?_, h.qnd⟩
    obtain ⟨k, g, a1, a2, _⟩ := h.qok _ hq
    have := hSl k g a2
    simp only at a1
    omega
  · rcases Nat.lt_or_ge i S.length with hi | hi
    · rw [List.getElem?_append_left (by rw [h.len]; exact hi)] at hf2
      exact (h.cover i f2 hf2).imp id (List.mem_cons_of_mem _)
    · have hil : i < (F ++ [x + c]).length := (List.getElem?_eq_some_iff.1 hf2).1
      simp [h.len] at hil
      have : i = S.length := by omega
      subst this
      rw [hlastF] at hf2; cases hf2
      exact .inr (List.mem_cons_self ..)
  · have hil := hdl i hi
    have g1 : S[i]? = some s2 := by rwa [List.getElem?_append_left hil] at h1
    have g2 : F[i]? = some f2 := by rwa [List.getElem?_append_left (by rw [h.len]; exact hil)] at h2
    split at he2
    · rename_i hin
      rcases List.mem_append.1 he2 with he2 | he2
      · obtain ⟨j, g, a1, a2, a3⟩ := h.closed i hi s2 f2 g1 g2 e2 (by rw [if_pos hin]; exact he2)
        exact ⟨j, g, hS _ _ a1, hF _ _ a2, a3⟩
      · simp at he2
        subst he2
        cases hin
        rw [hf] at g2; cases g2
        exact ⟨S.length, x + c, hlast, hlastF, Int.le_refl _⟩
    · rename_i hin
      obtain ⟨j, g, a1, a2, a3⟩ := h.closed i hi s2 f2 g1 g2 e2 (by rw [if_neg hin]; exact he2)
      exact ⟨j, g, hS _ _ a1, hF _ _ a2, a3⟩
  · rcases List.mem_append.1 hf2 with hf2 | hf2
    · exact h.small f2 hf2
    · simp at hf2; subst hf2; exact hx
  · rcases h.best with ⟨h1, h2⟩ | ⟨h1, h2, h3, h4⟩
    · refine .inl ⟨h1, fun i s2 a1 a2 hi => ?_⟩
      exact h2 i s2 (by rwa [List.getElem?_append_left (hdl i hi)] at a1) a2 hi
    · refine .inr ⟨h1, h2, h3, fun i s2 f2 a1 a2 a3 => ?_⟩
      rcases inv i s2 f2 a1 a2 with ⟨g1, g2⟩ | ⟨_, rfl, rfl⟩
      · exact h4 i s2 f2 g1 g2 a3
      · omega

/-- An edge leads to a node that is known to be as cheap. -/
theorem Inv.skip (h : Inv E goal C s0 (some n) ed S F Q dn x best) (hf : F[n]? = some x) {j : Nat} {g : Int} (hj : S[j]? = some s') (hg : F[j]? = some g) (hle : g ≤ x + c) :
    Inv E goal C s0 (some n) (ed ++ [(c, s')]) S F Q dn x best := by
  refine { h with closed := fun i hi s2 f2 h1 h2 e2 he2 => ?_ }
  split at he2
  · rename_i hin
    rcases List.mem_append.1 he2 with he2 | he2
    · exact h.closed i hi s2 f2 h1 h2 e2 (by rw [if_pos hin]; exact he2)
    · simp at he2
      subst he2
      cases hin
      rw [hf] at h2; cases h2
      exact ⟨j, g, hj, hg, hle⟩
  · rename_i hin
    exact h.closed i hi s2 f2 h1 h2 e2 (by rw [if_neg hin]; exact he2)

/-- An edge makes a node cheaper. -/
theorem Inv.less (hc : 0 ≤ c) (hE : ∀ s, ∀ e ∈ E s, 0 ≤ e.1) (h : Inv E goal C s0 (some n) ed S F Q dn x best) (hs : S[n]? = some s) (hf : F[n]? = some x) (he : (c, s') ∈ E s) (hx : x + c ≤ C * dn.length)
    {j : Nat} {g : Int} (hj : S[j]? = some s') (hg : F[j]? = some g) (hlt : x + c < g) :
    Inv E goal C s0 (some n) (ed ++ [(c, s')]) S (F.set j (x + c)) ((((j : Nat) : Int), x + c) :: Q) dn x best := by
  have hjl : j < F.length := (List.getElem?_eq_some_iff.1 hg).1
  have hjd : j ∉ dn := fun hd => by
    obtain ⟨f, a1, a2⟩ := h.dnlt j hd
    rw [hg] at a1; cases a1; omega
  have hne : n ≠ j := by rintro rfl; rw [hf] at hg; cases hg; omega
  have hF : ∀ (i : Nat), i ≠ j → (F.set j (x + c))[i]? = F[i]? := fun i hi => by rw [List.getElem?_set_ne (Ne.symm hi)]
  have hFj : (F.set j (x + c))[j]? = some (x + c) := by rw [List.getElem?_set_self hjl]
  have hp := h.real n s x hs hf
  have hdj : ∀ i ∈ dn, i ≠ j := fun i hi hij => hjd (hij ▸ hi)
  have down : ∀ (i : Nat) (f : Int), F[i]? = some f → ∃ f', (F.set j (x + c))[i]? = some f' ∧ f' ≤ f := fun i f hfi => by
    by_cases hij : i = j
    · subst hij; rw [hg] at hfi; cases hfi; exact ⟨_, hFj, by omega⟩
    · exact ⟨f, by rw [hF i hij]; exact hfi, Int.le_refl _⟩
  refine { h with
    len := by simp [h.len]
    root0 := ?_
    real := fun i s2 f2 h1 h2 => ?_
    qok := fun y hy => ?_
    qnd := ?_
    cover := fun i f2 hf2 => ?_
    dnlt := fun i hi => let ⟨g, a1, a2⟩ := h.dnlt i hi; ⟨g, by rw [hF i (hdj i hi)]; exact a1, a2⟩
    closed := fun i hi s2 f2 h1 h2 e2 he2 => ?_
    small := fun f2 hf2 => ?_
    best := ?_ }
  · by_cases h0 : 0 = j
    · subst h0
      have := h.root0
      rw [hg] at this; cases this
      have := (hp.nonneg hE); omega
    · rw [hF 0 h0]; exact h.root0
  · by_cases hij : i = j
    · subst hij
      rw [hFj] at h2; cases h2
      rw [hj] at h1; cases h1
      exact hp.snoc he
    · rw [hF i hij] at h2; exact h.real i s2 f2 h1 h2
  · rcases List.mem_cons.1 hy with rfl | hy
    · exact ⟨j, x + c, rfl, hFj, Int.le_refl _, by simp; omega, hx, fun hd => absurd hd hjd⟩
    · obtain ⟨k, f, a1, a2, a3, a4, a5, a6⟩ := h.qok y hy
      by_cases hkj : k = j
      · subst hkj
        rw [hg] at a2; cases a2
        exact ⟨k, x + c, a1, hFj, by omega, a4, a5, fun hd => absurd hd hjd⟩
      · exact ⟨k, f, a1, by rw [hF k hkj]; exact a2, a3, a4, a5, a6⟩
  · refine List.nodup_cons.2 ⟨fun hq => ?_, h.qnd⟩
    obtain ⟨k, f, a1, a2, a3, _⟩ := h.qok _ hq
    simp only at a1 a3
    have : k = j := by omega
    subst this
    rw [hg] at a2; cases a2; omega
  · by_cases hij : i = j
    · subst hij; rw [hFj] at hf2; cases hf2; exact .inr (List.mem_cons_self ..)
    · rw [hF i hij] at hf2
      exact (h.cover i f2 hf2).imp id (List.mem_cons_of_mem _)
  · rw [hF i (hdj i hi)] at h2
    split at he2
    · rename_i hin
      rcases List.mem_append.1 he2 with he2 | he2
      · obtain ⟨k, g2, a1, a2, a3⟩ := h.closed i hi s2 f2 h1 h2 e2 (by rw [if_pos hin]; exact he2)
        obtain ⟨g3, b1, b2⟩ := down k g2 a2
        exact ⟨k, g3, a1, b1, by omega⟩
      · simp at he2
        subst he2
        cases hin
        rw [hf] at h2; cases h2
        exact ⟨j, x + c, hj, hFj, Int.le_refl _⟩
    · rename_i hin
      obtain ⟨k, g2, a1, a2, a3⟩ := h.closed i hi s2 f2 h1 h2 e2 (by rw [if_neg hin]; exact he2)
      obtain ⟨g3, b1, b2⟩ := down k g2 a2
      exact ⟨k, g3, a1, b1, by omega⟩
  · rcases List.mem_or_eq_of_mem_set hf2 with hf2 | rfl
    · exact h.small f2 hf2
    · exact hx
  · rcases h.best with ⟨h1, h2⟩ | ⟨h1, h2, h3, h4⟩
    · exact .inl ⟨h1, h2⟩
    · refine .inr ⟨h1, h2, h3, fun i s2 f2 a1 a2 a3 => ?_⟩
      by_cases hij : i = j
      · subst hij; rw [hFj] at a2; cases a2; omega
      · rw [hF i hij] at a2; exact h4 i s2 f2 a1 a2 a3

/-- All edges of a node have been looked at. -/
theorem Inv.shut (h : Inv E goal C s0 (some n) ed S F Q dn x best) (hs : S[n]? = some s) (he : ed = E s) : Inv E goal C s0 none [] S F Q dn x best := by
  refine { h with closed := fun i hi s2 f2 h1 h2 e2 he2 => ?_ }
  rw [if_neg (by simp)] at he2
  refine h.closed i hi s2 f2 h1 h2 e2 ?_
  split
  · rename_i hin
    cases hin
    rw [hs] at h1; cases h1
    rw [he]; exact he2
  · exact he2

theorem Inv.dn_le (h : Inv E goal C s0 i0 ed S F Q dn m best) : dn.length ≤ S.length := by
  have : dn.length ≤ (List.range S.length).length := nodup_sub h.dnnd fun i hi => by
    obtain ⟨f, a1, _⟩ := h.dnlt i hi
    rw [List.mem_range, ← h.len]; exact (List.getElem?_eq_some_iff.1 a1).1
  simpa using this

theorem Inv.reach (h : Inv E goal C s0 i0 ed S F Q dn m best) : ∀ s ∈ S, ∃ d, Pth E s0 d s := fun s hs => by
  obtain ⟨i, hi, rfl⟩ := List.getElem_of_mem hs
  have hiF : i < F.length := by rw [h.len]; exact hi
  exact ⟨_, h.real i _ _ (List.getElem?_eq_getElem hi) (List.getElem?_eq_getElem hiF)⟩

/-- The queue is empty: all nodes are known, and the best cost is the least one. -/
theorem Inv.done (h : Inv E goal C s0 none [] S F [] dn m best) : Whole E s0 S ∧ ((best = -1 ∧ ∀ s ∈ S, goal s = false) ∨ (0 ≤ best ∧ Opt E goal s0 best)) := by
  have hdn : ∀ i, i < S.length → i ∈ dn := fun i hi => by
    have hiF : i < F.length := by rw [h.len]; exact hi
    rcases h.cover i _ (List.getElem?_eq_getElem hiF) with h1 | h1
    · exact h1
    · cases h1
  have hcl : ∀ (i : Nat) (s : α) (f : Int), S[i]? = some s → F[i]? = some f → ∀ e ∈ E s, ∃ (j : Nat) (g : Int), S[j]? = some e.2 ∧ F[j]? = some g ∧ g ≤ f + e.1 := fun i s f h1 h2 e he =>
    h.closed i (hdn i (List.getElem?_eq_some_iff.1 h1).1) s f h1 h2 e (by rw [if_neg (by simp)]; exact he)
  have hW : Whole E s0 S := by
    refine ⟨h.nodup, List.mem_of_getElem? h.root, h.reach, fun s hs e he => ?_⟩
    obtain ⟨i, hi, rfl⟩ := List.getElem_of_mem hs
    have hiF : i < F.length := by rw [h.len]; exact hi
    obtain ⟨j, g, a1, _⟩ := hcl i _ _ (List.getElem?_eq_getElem hi) (List.getElem?_eq_getElem hiF) e he
    exact List.mem_of_getElem? a1
  refine ⟨hW, ?_⟩
  rcases h.best with ⟨h1, h2⟩ | ⟨h1, h2, h3, h4⟩
  · refine .inl ⟨h1, fun s hs => ?_⟩
    obtain ⟨i, hi, rfl⟩ := List.getElem_of_mem hs
    cases hg : goal S[i] with
    | false => rfl
    | true => exact absurd (hdn i hi) (h2 i _ (List.getElem?_eq_getElem hi) hg)
  · refine .inr ⟨h1, h3, fun s d hg p => ?_⟩
    have low : ∀ {a b : α} {d : Int}, Pth E a d b → ∀ (i : Nat) (f : Int), S[i]? = some a → F[i]? = some f → ∃ (j : Nat) (g : Int), S[j]? = some b ∧ F[j]? = some g ∧ g ≤ f + d := by
      intro a b d p
      induction p with
      | nil s => intro i f a1 a2; exact ⟨i, f, a1, a2, by omega⟩
      | cons h0 _ ih =>
        intro i f a1 a2
        obtain ⟨j, g, b1, b2, b3⟩ := hcl i _ f a1 a2 _ h0
        obtain ⟨k, g2, c1, c2, c3⟩ := ih j g b1 b2
        exact ⟨k, g2, c1, c2, by simp only at b3; omega⟩
    obtain ⟨j, g, a1, a2, a3⟩ := low p 0 0 h.root h.root0
    have := h4 j s g a1 a2 hg
    omega
end
end Go.Fw.Dij

/- What the search of a projection keeps: keys, states, edges. -/
namespace Go.Fw
open Go Go.Proofs Heap
set_option maxRecDepth 10000

/-! ### Keys -/
def inU (l : List Int) : Prop := ∀ x ∈ l, 0 ≤ x ∧ x ≤ 255
theorem strNums_inj : ∀ {a b : List Int}, inU a → inU b → a.map (fun n => UInt8.ofNat n.toNat) = b.map (fun n => UInt8.ofNat n.toNat) → a = b
  | [], [], _, _, _ => rfl
  | [], _ :: _, _, _, h => by simp at h
  | _ :: _, [], _, _, h => by simp at h
  | x :: r, y :: q, ha, hb, h => by
    simp only [List.map_cons, List.cons.injEq] at h
    have h1 := ha x (List.mem_cons_self ..)
    have h2 := hb y (List.mem_cons_self ..)
    have e : x = y := by
      have := congrArg UInt8.toNat h.1
      rw [UInt8.toNat_ofNat_of_lt' (show x.toNat < UInt8.size by show x.toNat < 256; omega), UInt8.toNat_ofNat_of_lt' (show y.toNat < UInt8.size by show y.toNat < 256; omega)] at this
      omega
    rw [e, strNums_inj (fun z hz => ha z (List.mem_cons_of_mem _ hz)) (fun z hz => hb z (List.mem_cons_of_mem _ hz)) h.2]
abbrev keyV (s : List Int) : Value := .string (strOfNums s)
theorem same_key {a b : List Int} (ha : inU a) (hb : inU b) : sameK (keyV a) (keyV b) = decide (a = b) := by
  have : (strOfNums a == strOfNums b) = decide (a = b) := by
    rw [Bool.eq_iff_iff, decide_eq_true_eq]
    constructor
    · intro h
      have h := (MapKept.bytes_beq _ _).1 h
      have := congrArg (fun b : ByteArray => b.data.toList) h
      simp only [strOfNums_data] at this
      exact strNums_inj ha hb this
    · rintro rfl; exact (MapKept.bytes_beq _ _).2 rfl
  exact this
theorem rising_u {s : List Int} {n : Nat} (h : risingB s n = true) (hn : n ≤ 200) : inU s := fun x hx => by have := rising_in h x hx; omega

/-! ### The search -/
abbrev tSt (s : List Int) : List T := [tIs s.isEmpty s]
abbrev kvT (S : List (List Int)) : List (Value × T) := kvG keyV 0 S
/-- Where the actions lead. -/
def succA (n : Nat) (s : List Int) (l : List Actn) : List (Int × List Int) := (l.filter fun a => holdsB s a.pre).map fun a => (a.cost, afterL n s a.effs)
def succ (u : Task) (s : List Int) : List (Int × List Int) := succA u.facts.length s u.acts
abbrev Way (u : Task) : List Int → Int → List Int → Prop := Dij.Pth (succ u)
theorem succA_step {n : Nat} {s : List Int} {l : List Actn} {i : Nat} (hi : i < l.length) : succA n s (l.take (i + 1)) = succA n s (l.take i) ++ if holdsB s l[i].pre = true then [(l[i].cost, afterL n s l[i].effs)] else [] := by
  rw [succA, List.take_add_one, List.getElem?_eq_getElem hi, Option.toList_some, List.filter_append, List.map_append]
  simp only [succA]
  cases h : holdsB s l[i].pre <;> simp [h]
theorem succ_mem {u : Task} {s : List Int} {i : Nat} (hi : i < u.acts.length) (h : holdsB s u.acts[i].pre = true) : (u.acts[i].cost, afterL u.facts.length s u.acts[i].effs) ∈ succ u s :=
  List.mem_map.2 ⟨u.acts[i], List.mem_filter.2 ⟨List.getElem_mem hi, h⟩, rfl⟩
theorem succ_nonneg {u : Task} (TK : TaskOK u) : ∀ s, ∀ e ∈ succ u s, 0 ≤ e.1 := fun s e he => by
  obtain ⟨a, ha, rfl⟩ := List.mem_map.1 he
  exact (TK.cost _ (List.mem_filter.1 ha).1).1
theorem succ_rising {u : Task} {s : List Int} : ∀ e ∈ succ u s, risingB e.2 u.facts.length = true := fun e he => by
  obtain ⟨a, ha, rfl⟩ := List.mem_map.1 he
  exact after_rising ..

/-- The optimal cost, or why there is none. -/
inductive OptR (u : Task) (s : List Int) : LV → Prop
  | space (S : List (List Int)) (hn : S.Nodup) (hr : ∀ x ∈ S, ∃ d, Way u s d x) (hl : 20000 < S.length) : OptR u s (.tup [.int 0, .int 3])
  | none (S : List (List Int)) (hW : Dij.Whole (succ u) s S) (hl : S.length ≤ 20000) (hg : ∀ x ∈ S, holdsB x u.goal = false) : OptR u s (.tup [.int 0, .int 4])
  | ok (S : List (List Int)) (hW : Dij.Whole (succ u) s S) (hl : S.length ≤ 20000) (c : Int) (h0 : 0 ≤ c) (hb : c ≤ 2000000000) (hc : Dij.Opt (succ u) (fun x => holdsB x u.goal) s c) : OptR u s (.tup [.int c, .int 0])

/-- What the search keeps. -/
structure Sea (u : Task) (s : List Int) (i0 : Option Nat) (ed : List (Int × List Int)) (S : List (List Int)) (F : List Int) (Q : List Heap.Item) (dn : List Nat) (m best : Int) : Prop where
  inv : Dij.Inv (succ u) (fun x => holdsB x u.goal) 100000 s i0 ed S F Q dn m best
  heap : HP Q Q.length
  rise : ∀ x ∈ S, risingB x u.facts.length = true
  few : S.length ≤ 20000
  bst : best ≤ 2000000000

theorem Sea.start {u : Task} {s : List Int} (hs : risingB s u.facts.length = true) : Sea u s none [] [s] [0] [(0, 0)] [] 0 (-1) :=
  ⟨Dij.Inv.start, fun j h0 h1 => by simp at h1; omega, fun x hx => by simp at hx; rw [hx]; exact hs, by simp, by decide⟩

end Go.Fw

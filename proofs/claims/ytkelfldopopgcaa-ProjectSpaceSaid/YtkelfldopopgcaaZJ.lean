/- Sets, places, keys; closed patterns; patterns that are asked for. -/
import Derived.Test.YtkelfldopopgcaaZI

/- What the program's functions do: sets, places, keys; closed patterns. -/
namespace Go.Fw
open Go Go.Proofs
set_option maxRecDepth 10000

def kq50 : Kp := [(3, ([3, 7, 8, 9], [48]))]
theorem f50_spec (n1 : Bool) (p : List Int) (out : List Fr) : SpecP Try.prog 50 [.ints n1 p] out fun r ro => ∃ M : List Int, (∀ x, hasB M x = hasB p x) ∧ M.Nodup ∧ r = .mpr (.cur 48) ∧ ro = [(48, .mp (.int .i64) (kvI M))] := by
  refine spec_body cx_ok kq50 [] (fn := Try.f50) (by kernel_rfl) rfl (by kernel_rfl) rfl (by unfold FnOK; kernel_rfl) fun hok => ?_
  have hmx := le_max hok.1.1
  refine LoopW.mk (Nat × List Int) (fun u => u.1 ≤ p.length ∧ (∀ x, hasB u.2 x = hasB (p.take u.1) x) ∧ u.2.Nodup) (fun u => [(3, .mpr (.cur 48)), (7, .ints n1 p), (8, .int (p.map tI).length), (9, .int u.1)])
    (fun u => ⟨out, [(48, .mp (.int .i64) (kvI u.2))]⟩) (fun u => p.length - u.1) (0, []) ⟨Nat.zero_le _, fun _ => rfl, .nil⟩ ⟨rfl, rfl⟩ ?_
  rintro ⟨i, M⟩ ⟨hi0, hM, hMn⟩
  simp only at hi0 hM hMn
  refine And.intro (fun h1 => ?_) fun h1 => ?_
  · have hi := lt_of_dec h1
    obtain ⟨m, g1, g2, g3, _⟩ := upd_kvN p[i] hMn
    refine And.intro (by omega) (Exists.intro _ (And.intro (get_map hi) ?_))
    refine And.intro (by omega) (And.intro (by omega) ?_)
    refine Exists.intro (i + 1, m) (And.intro (by show p.length - (i + 1) < p.length - i; omega) (And.intro ⟨hi, fun x => ?_, g3⟩ (And.intro rfl ?_)))
    · show hasB m x = hasB (p.take (i + 1)) x
      rw [g2, hM, List.take_add_one, List.getElem?_eq_getElem hi, Option.toList_some, hasB_snoc]
    · show (⟨out, [(48, .mp (.int .i64) (updKV (.int .i64 p[i]) (.v (.bool true)) (kvI M)))]⟩ : St) = _
      rw [g1]
  · have hi : i = p.length := by have := ge_of_dec h1; omega
    subst hi
    rw [List.take_length] at hM
    exact Exists.intro [48] ⟨M, hM, hMn, rfl, rfl⟩

def kq36 : Kp := [(3, ([3, 7, 8, 9], [48]))]
theorem f36_spec (n1 : Bool) (p : List Int) (hp : p.Nodup) (out : List Fr) : SpecP Try.prog 36 [.ints n1 p] out fun r ro => r = .mpr (.cur 48) ∧ ro = [(48, .mp (.int .i64) (kvP p))] := by
  refine spec_body cx_ok kq36 [] (fn := Try.f36) (by kernel_rfl) rfl (by kernel_rfl) rfl (by unfold FnOK; kernel_rfl) fun hok => ?_
  have hmx := le_max hok.1.1
  refine LoopW.mk (Nat × List Int) (fun u => u.1 ≤ p.length ∧ u.2 = p.take u.1) (fun u => [(3, .mpr (.cur 48)), (7, .ints n1 p), (8, .int (p.map tI).length), (9, .int u.1)])
    (fun u => ⟨out, [(48, .mp (.int .i64) (kvP u.2))]⟩) (fun u => p.length - u.1) (0, []) ⟨Nat.zero_le _, rfl⟩ ⟨rfl, rfl⟩ ?_
  rintro ⟨i, L⟩ ⟨hi0, hL⟩
  simp only at hi0 hL
  refine And.intro (fun h1 => ?_) fun h1 => ?_
  · have hi := lt_of_dec h1
    refine And.intro (by omega) (Exists.intro _ (And.intro (get_map hi) ?_))
    refine And.intro (by omega) (And.intro (by omega) ?_)
    refine Exists.intro (i + 1, L ++ [p[i]]) (And.intro (by show p.length - (i + 1) < p.length - i; omega) (And.intro ⟨hi, ?_⟩ (And.intro rfl ?_)))
    · show L ++ [p[i]] = p.take (i + 1)
      rw [hL, List.take_add_one, List.getElem?_eq_getElem hi]; rfl
    show (⟨out, [(48, .mp (.int .i64) (updKV (.int .i64 p[i]) (.v (.int .i64 (i : Int))) (kvP L)))]⟩ : St) = _
    have hnot : p[i] ∉ L := fun hm => by
      rw [hL] at hm
      obtain ⟨j, hj, he⟩ := List.getElem_of_mem hm
      have hj2 : j < i := by rw [List.length_take] at hj; omega
      rw [List.getElem_take] at he
      exact absurd he (List.pairwise_iff_getElem.1 hp j i (by omega) hi hj2)
    have := upd_kvP hnot
    rw [show L.length = i by rw [hL, List.length_take]; omega] at this
    rw [this]
  · have hi : i = p.length := by have := ge_of_dec h1; omega
    subst hi
    rw [List.take_length] at hL
    subst hL
    exact Exists.intro [48] ⟨rfl, rfl⟩

/-! ### Facts and literals of a pattern -/
def factsL (p l : List Int) : List Int := (l.filter (hasB p)).map (posI p)
def litsL (p : List Int) (l : List Lit) : List Lit := (l.filter fun x => hasB p x.fact).map fun x => ⟨posI p x.fact, x.neg⟩
theorem factsL_step {p l : List Int} {i : Nat} (hi : i < l.length) : factsL p (l.take (i + 1)) = factsL p (l.take i) ++ if hasB p l[i] = true then [posI p l[i]] else [] := by
  simp only [factsL, filter_step hi, List.map_append]
  split <;> simp
theorem factsL_len (p l : List Int) : (factsL p l).length ≤ l.length := by simp [factsL, filter_len]
theorem litsL_step {p : List Int} {l : List Lit} {i : Nat} (hi : i < l.length) : litsL p (l.take (i + 1)) = litsL p (l.take i) ++ if hasB p l[i].fact = true then [⟨posI p l[i].fact, l[i].neg⟩] else [] := by
  rw [litsL, List.take_add_one, List.getElem?_eq_getElem hi, Option.toList_some, List.filter_append, List.map_append]
  simp only [litsL]
  cases h : hasB p l[i].fact <;> simp [h]
theorem litsL_len (p : List Int) (l : List Lit) : (litsL p l).length ≤ l.length := by
  rw [litsL, List.length_map]; exact List.length_filter_le ..

def kq35 : Kp := [(3, ([1, 5, 10, 11, 12], [208]))]
theorem f35_spec (n1 : Bool) (p l : List Int) (fr : Fr) (q : Nat) (hq : look fr q = some (.mp (.int .i64) (kvP p))) (hl : l.length ≤ 1000000000) (out : List Fr) :
    SpecP Try.prog 35 [.ints n1 l, .mpr (.fr 0 q)] (fr :: out) fun r ro => r = .ints (factsL p l).isEmpty (factsL p l) ∧ ro = [] := by
  refine SpecP.close (Post := fun r ro => r = accV 208 1 ((factsL p l).map tI) ∧ ro = accO 208 3 1 ((factsL p l).map tI)) ?_ ?_
  rotate_left
  · rintro r ro ⟨rfl, rfl⟩
    refine ⟨_, acc_cls (e := 3) fun x r h => by rw [h]; exact look_cons .. |>.trans (if_pos rfl), ?_, rfl⟩
    rw [show ((factsL p l).map tI).isEmpty = (factsL p l).isEmpty by cases factsL p l <;> rfl]
  refine spec_body cx_ok kq35 [] (fn := Try.f35) (by kernel_rfl) rfl (by kernel_rfl) rfl (by unfold FnOK; kernel_rfl) fun hok => ?_
  refine LoopW.mk (Nat × List Int) (fun u => u.1 ≤ l.length ∧ u.2 = factsL p (l.take u.1)) (fun u => [(1, .mpr (.fr 0 q)), (5, accV 208 1 (u.2.map tI)), (10, .ints n1 l), (11, .int (l.map tI).length), (12, .int u.1)])
    (fun u => ⟨fr :: out, accO 208 3 1 (u.2.map tI)⟩) (fun u => l.length - u.1) (0, []) ⟨Nat.zero_le _, rfl⟩ ⟨rfl, rfl⟩ ?_
  rintro ⟨i, L⟩ ⟨hi0, hL⟩
  simp only at hi0 hL
  have hLl : L.length ≤ 1000000000 := by rw [hL]; have := factsL_len p (l.take i); rw [List.length_take] at this; omega
  cases L
  case' nil => let O : List Int := []
  case' cons y r => let O : List Int := y :: r
  all_goals
    refine And.intro (fun h1 => ?_) fun h1 => ?_
    rotate_left
    · have hi : i = l.length := by have := ge_of_dec h1; have : i ≤ l.length := hi0; omega
      rw [hi, List.take_length] at hL
      have hL' : O = factsL p l := hL
      rw [← hL']
      exact Exists.intro [208] ⟨rfl, rfl⟩
    have hi := lt_of_dec h1
    have stp := factsL_step (p := p) hi
    rw [← hL] at stp
    refine And.intro (by omega) (Exists.intro _ (And.intro (get_map hi) ?_))
    refine Exists.intro _ (And.intro (St.get_fr (fr := fr) rfl hq) ?_)
    refine Exists.intro _ (Exists.intro _ (And.intro (look_kvP p l[i]) (And.intro (has_kvP p l[i]) ?_)))
    refine And.intro (fun h2 => ?_) fun h2 => ?_
    · rw [if_pos h2] at stp
      have hl4 : ∀ X : List T, ((O.map tI) ++ [X]).length ≤ 1000000001 := fun X => by
        have : O.length ≤ 1000000000 := hLl
        rw [List.length_append, List.length_map, List.length_singleton]; omega
      repeat first
        | refine And.intro (Nat.le_of_ble_eq_true rfl) ?_
        | refine And.intro rfl ?_
        | refine And.intro (Nat.le_trans (Nat.mul_le_mul_right _ (hl4 _)) (Nat.le_of_ble_eq_true rfl)) ?_
        | refine And.intro (Nat.le_trans (hl4 _) (Nat.le_of_ble_eq_true rfl)) ?_
      refine And.intro (by show (-9223372036854775808 : Int) ≤ (i : Int) + 1; omega) (And.intro (by show (i : Int) + 1 ≤ 9223372036854775807; omega) ?_)
      first
        | exact Exists.intro (i + 1, [posI p l[i]]) (And.intro (by show l.length - (i + 1) < l.length - i; omega) (And.intro ⟨hi, stp.symm⟩ (And.intro rfl rfl)))
        | (refine Exists.intro (i + 1, y :: (r ++ [posI p l[i]])) (And.intro (by show l.length - (i + 1) < l.length - i; omega) (And.intro ⟨hi, stp.symm⟩ ?_))
           have e : (r ++ [posI p l[i]]).map tI = r.map tI ++ [tI (posI p l[i])] := by simp
           simp only [List.map_cons, e]
           exact And.intro rfl rfl)
    · rw [if_neg (by simp [h2]), List.append_nil] at stp
      refine And.intro (by show (-9223372036854775808 : Int) ≤ (i : Int) + 1; omega) (And.intro (by show (i : Int) + 1 ≤ 9223372036854775807; omega) ?_)
      exact Exists.intro (i + 1, O) (And.intro (by show l.length - (i + 1) < l.length - i; omega) (And.intro ⟨hi, stp.symm⟩ (And.intro rfl rfl)))

def kq62 : Kp := [(3, ([1, 5, 10, 11, 12], [240]))]
theorem f62_spec (n1 : Bool) (p : List Int) (l : List Lit) (fr : Fr) (q : Nat) (hq : look fr q = some (.mp (.int .i64) (kvP p))) (hl : l.length ≤ 1000000000) (out : List Fr) :
    SpecP Try.prog 62 [.lits n1 l, .mpr (.fr 0 q)] (fr :: out) fun r ro => r = .lits (litsL p l).isEmpty (litsL p l) ∧ ro = [] := by
  refine SpecP.close (Post := fun r ro => r = accV 240 2 ((litsL p l).map tLit) ∧ ro = accO 240 32 2 ((litsL p l).map tLit)) ?_ ?_
  rotate_left
  · rintro r ro ⟨rfl, rfl⟩
    refine ⟨_, acc_cls (e := 32) fun x r h => by rw [h]; exact look_cons .. |>.trans (if_pos rfl), ?_, rfl⟩
    rw [show ((litsL p l).map tLit).isEmpty = (litsL p l).isEmpty by cases litsL p l <;> rfl]
  refine spec_body cx_ok kq62 [] (fn := Try.f62) (by kernel_rfl) rfl (by kernel_rfl) rfl (by unfold FnOK; kernel_rfl) fun hok => ?_
  refine LoopW.mk (Nat × List Lit) (fun u => u.1 ≤ l.length ∧ u.2 = litsL p (l.take u.1)) (fun u => [(1, .mpr (.fr 0 q)), (5, accV 240 2 (u.2.map tLit)), (10, .lits n1 l), (11, .int (l.map tLit).length), (12, .int u.1)])
    (fun u => ⟨fr :: out, accO 240 32 2 (u.2.map tLit)⟩) (fun u => l.length - u.1) (0, []) ⟨Nat.zero_le _, rfl⟩ ⟨rfl, rfl⟩ ?_
  rintro ⟨i, L⟩ ⟨hi0, hL⟩
  simp only at hi0 hL
  have hLl : L.length ≤ 1000000000 := by rw [hL]; have := litsL_len p (l.take i); rw [List.length_take] at this; omega
  cases L
  case' nil => let O : List Lit := []
  case' cons y r => let O : List Lit := y :: r
  all_goals
    refine And.intro (fun h1 => ?_) fun h1 => ?_
    rotate_left
    · have hi : i = l.length := by have := ge_of_dec h1; have : i ≤ l.length := hi0; omega
      rw [hi, List.take_length] at hL
      have hL' : O = litsL p l := hL
      rw [← hL']
      exact Exists.intro [240] ⟨rfl, rfl⟩
    have hi := lt_of_dec h1
    have stp := litsL_step (p := p) hi
    rw [← hL] at stp
    refine And.intro (by omega) (Exists.intro _ (And.intro (get_map hi) ?_))
    refine Exists.intro _ (And.intro (St.get_fr (fr := fr) rfl hq) ?_)
    refine Exists.intro _ (Exists.intro _ (And.intro (look_kvP p l[i].fact) (And.intro (has_kvP p l[i].fact) ?_)))
    refine And.intro (fun h2 => ?_) fun h2 => ?_
    · rw [if_pos h2] at stp
      have hl4 : ∀ X : List T, ((O.map tLit) ++ [X]).length ≤ 1000000001 := fun X => by
        have : O.length ≤ 1000000000 := hLl
        rw [List.length_append, List.length_map, List.length_singleton]; omega
      refine And.intro (fun h3 => ?_) fun h3 => ?_
      case' refine_1 => let b : Bool := true
      case' refine_2 => let b : Bool := false
      all_goals
        replace h3 : l[i].neg = b := h3
        rw [h3] at stp
        repeat first
          | refine And.intro (Nat.le_of_ble_eq_true rfl) ?_
          | refine And.intro rfl ?_
          | refine And.intro (Nat.le_trans (Nat.mul_le_mul_right _ (hl4 _)) (Nat.le_of_ble_eq_true rfl)) ?_
          | refine And.intro (Nat.le_trans (hl4 _) (Nat.le_of_ble_eq_true rfl)) ?_
        refine And.intro (by show (-9223372036854775808 : Int) ≤ (i : Int) + 1; omega) (And.intro (by show (i : Int) + 1 ≤ 9223372036854775807; omega) ?_)
        first
          | exact Exists.intro (i + 1, [(⟨posI p l[i].fact, b⟩ : Lit)]) (And.intro (by show l.length - (i + 1) < l.length - i; omega) (And.intro ⟨hi, stp.symm⟩ (And.intro rfl rfl)))
          | (refine Exists.intro (i + 1, y :: (r ++ [(⟨posI p l[i].fact, b⟩ : Lit)])) (And.intro (by show l.length - (i + 1) < l.length - i; omega) (And.intro ⟨hi, stp.symm⟩ ?_))
             have e : (r ++ [(⟨posI p l[i].fact, b⟩ : Lit)]).map tLit = r.map tLit ++ [tLit ⟨posI p l[i].fact, b⟩] := by simp
             simp only [List.map_cons, e]
             exact And.intro rfl rfl)
    · rw [if_neg (by simp [h2]), List.append_nil] at stp
      refine And.intro (by show (-9223372036854775808 : Int) ≤ (i : Int) + 1; omega) (And.intro (by show (i : Int) + 1 ≤ 9223372036854775807; omega) ?_)
      exact Exists.intro (i + 1, O) (And.intro (by show l.length - (i + 1) < l.length - i; omega) (And.intro ⟨hi, stp.symm⟩ (And.intro rfl rfl)))

/-! ### Keys -/
def tU (n : Int) : List T := [.v (.int .u8 n)]
theorem nums_tU : ∀ l : List Int, numsOf (l.map tU) = some l
  | [] => rfl
  | x :: r => by simp only [List.map_cons, tU, numsOf]; rw [nums_tU r]
def kq56 : Kp := [(3, ([3, 6, 7, 8], [128]))]
theorem f56_spec (n1 : Bool) (l : List Int) (hl : ∀ x ∈ l, 0 ≤ x ∧ x ≤ 255) (hn : l.length ≤ 1000000000) (out : List Fr) : SpecP Try.prog 56 [.ints n1 l] out fun r ro => r = .t (.v (.string (strOfNums l))) ∧ ro = [] := by
  refine spec_body cx_ok kq56 [] (fn := Try.f56) (by kernel_rfl) rfl (by kernel_rfl) rfl (by unfold FnOK; kernel_rfl) fun hok => ?_
  refine LoopW.mk (Nat × List Int) (fun u => u.1 ≤ l.length ∧ u.2 = l.take u.1) (fun u => [(3, accV 128 1 (u.2.map tU)), (6, .ints n1 l), (7, .int (l.map tI).length), (8, .int u.1)])
    (fun u => ⟨out, accO 128 5 1 (u.2.map tU)⟩) (fun u => l.length - u.1) (0, []) ⟨Nat.zero_le _, rfl⟩ ⟨rfl, rfl⟩ ?_
  rintro ⟨i, L⟩ ⟨hi0, hL⟩
  simp only at hi0 hL
  have hLl : L.length ≤ 1000000000 := by rw [hL, List.length_take]; omega
  cases L
  case' nil => let O : List Int := []
  case' cons y r => let O : List Int := y :: r
  all_goals
    refine And.intro (fun h1 => ?_) fun h1 => ?_
    rotate_left
    · have hi : i = l.length := by have := ge_of_dec h1; have : i ≤ l.length := hi0; omega
      rw [hi, List.take_length] at hL
      have hL' : O = l := hL
      rw [← hL']
      first
        | exact Exists.intro [] (And.intro rfl (Exists.intro [] ⟨rfl, rfl⟩))
        | (refine And.intro (by simp) (Exists.intro O (And.intro ?_ (Exists.intro [] ⟨rfl, rfl⟩)))
           show numsOf ((((y :: r).map tU).drop 0).take ((y :: r).map tU).length) = some (y :: r)
           rw [← take_all, nums_tU])
    have hi := lt_of_dec h1
    have hx := hl _ (List.getElem_mem hi)
    have stp : l.take (i + 1) = l.take i ++ [l[i]] := by rw [List.take_add_one, List.getElem?_eq_getElem hi]; rfl
    rw [← hL] at stp
    refine And.intro (by omega) (Exists.intro _ (And.intro (get_map hi) ?_))
    refine And.intro hx.1 (And.intro hx.2 ?_)
    have hl4 : ∀ X : List T, ((O.map tU) ++ [X]).length ≤ 1000000001 := fun X => by
      have : O.length ≤ 1000000000 := hLl
      rw [List.length_append, List.length_map, List.length_singleton]; omega
    repeat first
      | refine And.intro (Nat.le_of_ble_eq_true rfl) ?_
      | refine And.intro rfl ?_
      | refine And.intro (Nat.le_trans (Nat.mul_le_mul_right _ (hl4 _)) (Nat.le_of_ble_eq_true rfl)) ?_
      | refine And.intro (Nat.le_trans (hl4 _) (Nat.le_of_ble_eq_true rfl)) ?_
    refine And.intro (by show (-9223372036854775808 : Int) ≤ (i : Int) + 1; omega) (And.intro (by show (i : Int) + 1 ≤ 9223372036854775807; omega) ?_)
    first
      | exact Exists.intro (i + 1, [l[i]]) (And.intro (by show l.length - (i + 1) < l.length - i; omega) (And.intro ⟨hi, stp.symm⟩ (And.intro rfl rfl)))
      | (refine Exists.intro (i + 1, y :: (r ++ [l[i]])) (And.intro (by show l.length - (i + 1) < l.length - i; omega) (And.intro ⟨hi, stp.symm⟩ ?_))
         have e : (r ++ [l[i]]).map tU = r.map tU ++ [tU l[i]] := by simp
         simp only [List.map_cons, e]
         exact And.intro rfl rfl)

end Go.Fw

/- What the program's functions do: closed patterns, and what is asked of patterns. -/
namespace Go.Fw
open Go Go.Proofs
set_option maxRecDepth 10000

abbrev cellsAct (a : Actn) : List LV := [.t (.v (.string a.name)), .t (.v (.int .i64 a.cost)), .t (.sl a.pn 2 (a.pre.map tLit)), .t (.sl a.en 3 (a.effs.map tEff))]
abbrev cellsEff (e : Eff) : List LV := [.t (.sl e.nil 2 (e.when_.map tLit)), .t (.v (.int .i64 e.lit.fact)), .t (.v (.bool e.lit.neg))]
abbrev LV.mapK (k : K) : LV := .mpr k

theorem f70_spec (x : Lit) (M : List Int) (q : Nat) (fr0 fr1 fr2 fr3 : Fr) (h2 : look fr2 24 = some (.box [.mpr (.fr 0 q)])) (h3 : look fr3 q = some (.mp (.int .i64) (kvI M))) (out : List Fr) :
    SpecP Try.prog 70 [.lit x, .ptr (.fr 2 24) 0] (fr0 :: fr1 :: fr2 :: fr3 :: out) fun r ro => r = .bool (!hasB M x.fact) ∧ ro = [] := by
  refine spec_body cx_ok [] [] (fn := Try.f70) (by kernel_rfl) rfl (by kernel_rfl) rfl (by unfold FnOK; kernel_rfl) fun hok => ?_
  refine Exists.intro _ (And.intro (St.get_fr (fr := fr2) rfl h2) ?_)
  refine Exists.intro _ (And.intro (St.get_fr (fr := fr3) rfl h3) ?_)
  refine Exists.intro _ (And.intro (look_kvI _ _) ?_)
  refine And.intro (fun h => ?_) fun h => ?_
  · exact Exists.intro [] (ret_bool (by rw [h]) rfl)
  · exact Exists.intro [] (ret_bool (by rw [h]) rfl)

/-- Is nothing asked of other facts? -/
def clE (p : List Int) (e : Eff) : Bool := !(hasB p e.lit.fact && e.when_.any fun l => !hasB p l.fact)
def closedB (t : Task) (p : List Int) : Bool := t.acts.all fun a => a.effs.all (clE p)
theorem closedB_congr {t : Task} {p q : List Int} (h : ∀ x, hasB p x = hasB q x) : closedB t p = closedB t q := by
  have e : clE p = clE q := by funext e; simp only [clE, h]
  simp only [closedB, e]

def kq49 : Kp := [(2, ([3, 10, 11, 12], [16, 24])), (5, ([3, 10, 11, 12, 17, 18, 19], [16, 24]))]
theorem f49_spec (t : Task) (M : List Int) (q : Nat) (fr : Fr) (h : look fr q = some (.mp (.int .i64) (kvI M))) (out : List Fr) :
    SpecP Try.prog 49 [.task t, .mpr (.fr 0 q)] (fr :: out) fun r ro => r = .bool (closedB t M) ∧ ro = [] := by
  refine spec_body cx_ok kq49 [] (fn := Try.f49) (by kernel_rfl) rfl (by kernel_rfl) rfl (by unfold FnOK; kernel_rfl) fun hok => ?_
  have hmx := le_max hok.1.2.2.2.1.1
  refine LoopW.mk Nat (fun i => i ≤ t.acts.length ∧ ∀ j (hj : j < t.acts.length), j < i → t.acts[j].effs.all (clE M) = true) (fun i => [(3, .ptr (.cur 24) 0), (10, .t (.sl t.an 4 (t.acts.map tAct))), (11, .int (t.acts.map tAct).length), (12, .int i)])
    (fun _ => ⟨fr :: out, [(16, .box (cellsTask t)), (24, .box [.mpr (.fr 0 q)])]⟩) (fun i => t.acts.length - i) 0 ⟨Nat.zero_le _, fun j _ h => by omega⟩ ⟨rfl, rfl⟩ fun i hI => ?_
  refine And.intro (fun h1 => ?_) fun h1 => ?_
  · have hi := lt_of_dec h1
    refine And.intro (by omega) (Exists.intro _ (And.intro (get_map hi) ?_))
    refine LoopW.mk Nat (fun k => k ≤ t.acts[i].effs.length ∧ ∀ j (hj : j < t.acts[i].effs.length), j < k → clE M t.acts[i].effs[j] = true) (fun k => [(3, .ptr (.cur 24) 0), (10, .t (.sl t.an 4 (t.acts.map tAct))), (11, .int (t.acts.map tAct).length), (12, .int i),
        (17, .t (.sl t.acts[i].en 3 (t.acts[i].effs.map tEff))), (18, .int (t.acts[i].effs.map tEff).length), (19, .int k)])
      (fun _ => ⟨fr :: out, [(16, .box (cellsTask t)), (24, .box [.mpr (.fr 0 q)])]⟩) (fun k => t.acts[i].effs.length - k) 0 ⟨Nat.zero_le _, fun j _ h => by omega⟩ ⟨rfl, rfl⟩ fun k hK => ?_
    refine And.intro (fun h2 => ?_) fun h2 => ?_
    · have hk := lt_of_dec h2
      have hmx2 : t.acts[i].effs.length ≤ maxLen := by
        have := okEs_iff.1 hok.1.2.2.2.1.2 _ (List.mem_map_of_mem (List.getElem_mem hi)) _ (show T.sl t.acts[i].en 3 (t.acts[i].effs.map tEff) ∈ tAct t.acts[i] by simp [tAct])
        have := this.1
        rwa [List.length_map] at this
      have hmx2 : (t.acts[i].effs.length : Int) ≤ 9223372036854775807 := by unfold maxLen at hmx2; omega
      have next : clE M t.acts[i].effs[k] = true → (k + 1 ≤ t.acts[i].effs.length ∧ ∀ j (hj : j < t.acts[i].effs.length), j < k + 1 → clE M t.acts[i].effs[j] = true) := fun hc => ⟨hk, fun j hj hjk => by
        rcases Nat.lt_or_ge j k with h | h
        · exact hK.2 j hj h
        · have : j = k := by omega
          subst this; exact hc⟩
      refine And.intro (by omega) (Exists.intro _ (And.intro (get_map hk) ?_))
      refine Exists.intro _ (And.intro (St.get_fr (fr := fr) rfl h) ?_)
      refine Exists.intro _ (And.intro (look_kvI _ _) ?_)
      refine And.intro (fun h3 => ?_) fun h3 => ?_
      · refine SpecP.mono (f69_spec t.acts[i].effs[k].nil t.acts[i].effs[k].when_ 70 0 24 (fun l => !hasB M l.fact) _ (fun x _ => f70_spec x M q [] [] _ fr rfl h out)) ?_
        rintro _ _ ⟨rfl, rfl⟩
        refine And.intro trivial (And.intro trivial ?_)
        refine And.intro (fun h4 => ?_) fun h4 => ?_
        · refine Exists.intro [] (ret_bool ?_ rfl)
          have : closedB t M ≠ true := fun hc => by
            have := List.all_eq_true.1 (List.all_eq_true.1 hc _ (List.getElem_mem hi)) _ (List.getElem_mem hk)
            simp only [clE, h3, h4] at this
            exact Bool.noConfusion this
          cases hc : closedB t M
          · rfl
          · exact absurd hc this
        · refine And.intro (by omega) (And.intro (by omega) ?_)
          exact Exists.intro (k + 1) (And.intro (by show t.acts[i].effs.length - (k + 1) < t.acts[i].effs.length - k; omega) (And.intro (next (by simp only [clE, h3, h4]; rfl)) (And.intro rfl rfl)))
      · refine And.intro (by omega) (And.intro (by omega) ?_)
        exact Exists.intro (k + 1) (And.intro (by show t.acts[i].effs.length - (k + 1) < t.acts[i].effs.length - k; omega) (And.intro (next (by simp only [clE, h3]; rfl)) (And.intro rfl rfl)))
    · have hk : t.acts[i].effs.length ≤ k := ge_of_dec h2
      refine And.intro (by omega) (And.intro (by omega) ?_)
      refine Exists.intro (i + 1) (And.intro (by show t.acts.length - (i + 1) < t.acts.length - i; omega) (And.intro ⟨hi, fun j hj hji => ?_⟩ (And.intro rfl rfl)))
      rcases Nat.lt_or_ge j i with h | h
      · exact hI.2 j hj h
      · have : j = i := by omega
        subst this
        refine List.all_eq_true.2 fun e he => ?_
        obtain ⟨m, hm, rfl⟩ := List.getElem_of_mem he
        exact hK.2 m hm (by omega)
  · have hi : t.acts.length ≤ i := ge_of_dec h1
    refine Exists.intro [] (ret_bool ?_ rfl)
    refine (List.all_eq_true.2 fun a ha => ?_ : closedB t M = true)
    obtain ⟨m, hm, rfl⟩ := List.getElem_of_mem ha
    exact hI.2 m hm (by omega)

def fineB (t : Task) (w : Bool) (p : List Int) : Bool := risingB p t.facts.length && (!w || closedB t p)
def oq66 : Od := [(1, [(0, .pure), (1, .pure), (2, .pure), (3, .pure), (4, .eff), (5, .pure), (6, .pure), (7, .pure), (8, .pure), (9, .pure), (10, .pure), (11, .eff), (12, .eff), (13, .pure), (14, .pure), (15, .pure)])]
theorem f66_spec (t : Task) (n1 : Bool) (p : List Int) (w : Bool) (out : List Fr) : SpecP Try.prog 66 [.task t, .ints n1 p, .bool w] out fun r ro => r = .bool (fineB t w p) ∧ ro = [] := by
  refine spec_body cx_ok [] oq66 (fn := Try.f66) (by kernel_rfl) rfl (by kernel_rfl) rfl (by unfold FnOK; kernel_rfl) fun hok => ?_
  cases w
  case' true => let w : Bool := true
  case' false => let w : Bool := false
  all_goals
    refine SpecP.mono (f71_spec n1 p (t.facts.map tS).length []) ?_
    rintro _ _ ⟨rfl, rfl⟩
    rw [List.length_map]
    refine And.intro ⟨rfl, rfl, rfl⟩ ?_
    refine And.intro (fun h => ?_) fun h => ?_
  · exact Exists.intro [] (ret_bool (by simp [fineB, h]) rfl)
  · exact Exists.intro [] (ret_bool (by simp [fineB, h]) rfl)
  · refine SpecP.mono (f50_spec n1 p []) ?_
    rintro _ _ ⟨M, hM, hMn, rfl, rfl⟩
    refine And.intro ⟨rfl, rfl, rfl⟩ ?_
    refine SpecP.mono (f49_spec t M (pl 144 48) _ rfl _) ?_
    rintro _ _ ⟨rfl, rfl⟩
    refine And.intro ⟨rfl, rfl, rfl⟩ ?_
    rw [closedB_congr hM]
    refine And.intro (fun h2 => ?_) fun h2 => ?_
    · exact Exists.intro [] (ret_bool (by simp [fineB, h, h2]) rfl)
    · exact Exists.intro [] (ret_bool (by simp [fineB, h, h2]) rfl)
  · exact Exists.intro [] (ret_bool (by simp [fineB, h]) rfl)

end Go.Fw

/- What the program's functions do: the errors of patterns. -/
namespace Go.Fw
open Go Go.Proofs
set_option maxRecDepth 10000

def tLs (l : List (Bool × List Int)) : List (List T) := l.map fun p => [tIs p.1 p.2]
theorem tLs_get {l : List (Bool × List Int)} {i : Nat} (h : i < l.length) : (tLs l)[((i : Int)).toNat]? = some [tIs l[i].1 l[i].2] := by simp [tLs, h]
theorem tLs_len (l : List (Bool × List Int)) : (tLs l).length = l.length := List.length_map ..

theorem f65_spec (t : Task) (w : Bool) (n1 : Bool) (p : List Int) (fr0 fr1 fr2 : Fr) (h2 : look fr2 24 = some (.box (cellsTask t))) (h3 : look fr2 32 = some (.box [.bool w])) (out : List Fr) :
    SpecP Try.prog 65 [.ints n1 p, .ptr (.fr 2 24) 0, .ptr (.fr 2 32) 0] (fr0 :: fr1 :: fr2 :: out) fun r ro => r = .bool (!fineB t w p) ∧ ro = [] := by
  refine spec_body cx_ok [] [] (fn := Try.f65) (by kernel_rfl) rfl (by kernel_rfl) rfl (by unfold FnOK; kernel_rfl) fun hok => ?_
  refine Exists.intro _ (And.intro (St.get_fr (fr := fr2) rfl h2) ?_)
  refine Exists.intro _ (And.intro (St.get_fr (fr := fr2) rfl h3) ?_)
  refine And.intro (fun hw => ?_) fun hw => ?_
  · refine SpecP.mono (f66_spec t n1 p true []) ?_
    rintro _ _ ⟨rfl, rfl⟩
    subst hw
    refine And.intro (fun h => ?_) fun h => ?_
    · exact Exists.intro [] (ret_bool (by rw [h]) rfl)
    · exact Exists.intro [] (ret_bool (by rw [h]) rfl)
  · refine SpecP.mono (f66_spec t n1 p false []) ?_
    rintro _ _ ⟨rfl, rfl⟩
    subst hw
    refine And.intro (fun h => ?_) fun h => ?_
    · exact Exists.intro [] (ret_bool (by rw [h]) rfl)
    · exact Exists.intro [] (ret_bool (by rw [h]) rfl)

def kq79 : Kp := [(2, ([0, 1, 7, 8], []))]
theorem f79_spec (n1 : Bool) (l : List (Bool × List Int)) (fc k s s2 : Nat) (p : Bool × List Int → Bool) (out : List Fr)
    (hc : ∀ x ∈ l, SpecP Try.prog fc [.ints x.1 x.2, .ptr (.fr (k + 1) s) 0, .ptr (.fr (k + 1) s2) 0] ([] :: out) fun r ro => r = .bool (p x) ∧ ro = []) :
    SpecP Try.prog 79 [.t (.sl n1 1 (tLs l)), .fn fc [(.fr k s, 0), (.fr k s2, 0)]] out fun r ro => ∃ j : Int, r = .int j ∧ decide (0 ≤ j) = l.any p ∧ ro = [] := by
  refine spec_body cx_ok kq79 [] (fn := Try.f79) (by kernel_rfl) rfl (by kernel_rfl) rfl (by unfold FnOK; kernel_rfl) fun hok => ?_
  have hmx : (l.length : Int) ≤ 9223372036854775807 := by have := hok.1.1; rw [tLs_len] at this; unfold maxLen at this; omega
  refine LoopW.mk Nat (fun i => i ≤ l.length ∧ (l.take i).any p = false) (fun i => [(0, .t (.sl n1 1 (tLs l))), (1, .fn fc [(.fr k s, 0), (.fr k s2, 0)]), (7, .int (tLs l).length), (8, .int i)]) (fun _ => ⟨out, []⟩) (fun i => l.length - i) 0 ⟨Nat.zero_le _, rfl⟩ ⟨rfl, rfl⟩ fun i hI => ?_
  refine And.intro (fun h1 => ?_) fun h1 => ?_
  · have hi : i < l.length := by have := of_decide_eq_true h1; rw [tLs_len] at this; omega
    refine And.intro (by omega) (Exists.intro _ (And.intro (tLs_get hi) ?_))
    refine SpecP.mono (hc _ (List.getElem_mem hi)) ?_
    rintro _ _ ⟨rfl, rfl⟩
    refine And.intro trivial (And.intro trivial ?_)
    refine And.intro (fun h2 => ?_) fun h2 => ?_
    · exact Exists.intro [] ⟨_, rfl, by rw [any_true hi h2]; simp, rfl⟩
    · refine And.intro (by omega) (And.intro (by omega) ?_)
      exact Exists.intro (i + 1) (And.intro (by show l.length - (i + 1) < l.length - i; omega) (And.intro ⟨hi, any_step hi hI.2 h2⟩ (And.intro rfl rfl)))
  · have hi : l.length ≤ i := by have := of_decide_eq_false h1; rw [tLs_len] at this; omega
    exact Exists.intro [] ⟨_, rfl, by rw [any_end hi hI.2]; rfl, rfl⟩

theorem f64_spec (n1 : Bool) (l : List (Bool × List Int)) (fc k s s2 : Nat) (p : Bool × List Int → Bool) (out : List Fr)
    (hc : ∀ x ∈ l, SpecP Try.prog fc [.ints x.1 x.2, .ptr (.fr (k + 2) s) 0, .ptr (.fr (k + 2) s2) 0] ([] :: [] :: out) fun r ro => r = .bool (p x) ∧ ro = []) :
    SpecP Try.prog 64 [.t (.sl n1 1 (tLs l)), .fn fc [(.fr k s, 0), (.fr k s2, 0)]] out fun r ro => r = .bool (l.any p) ∧ ro = [] := by
  refine spec_body cx_ok [] [] (fn := Try.f64) (by kernel_rfl) rfl (by kernel_rfl) rfl (by unfold FnOK; kernel_rfl) fun hok => ?_
  refine SpecP.mono (f79_spec n1 l fc (k + 1) s s2 p _ hc) ?_
  rintro _ _ ⟨j, rfl, hj, rfl⟩
  refine And.intro trivial (And.intro trivial ?_)
  refine And.intro (fun h => ?_) fun h => ?_
  · exact Exists.intro [] (ret_bool (by rw [← hj]; simpa using h) rfl)
  · exact Exists.intro [] (ret_bool (by rw [← hj]; simpa using h) rfl)

def asksI (t : Task) (w : Bool) (l : List (Bool × List Int)) : Int := if isB t = true then (if (l.any fun p => !fineB t w p.2) = true then 1 else 0) else 10
theorem f37_spec (t : Task) (w n1 : Bool) (l : List (Bool × List Int)) (out : List Fr) : SpecP Try.prog 37 [.task t, .bool w, .t (.sl n1 1 (tLs l))] out fun r ro => r = .int (asksI t w l) ∧ ro = [] := by
  refine spec_body cx_ok [] [] (fn := Try.f37) (by kernel_rfl) rfl (by kernel_rfl) rfl (by unfold FnOK; kernel_rfl) fun hok => ?_
  refine SpecP.mono (f63_spec t []) ?_
  rintro _ _ ⟨rfl, rfl⟩
  refine And.intro (fun h1 => ?_) fun h1 => ?_
  rotate_left
  · exact Exists.intro [] ⟨by simp only [asksI, h1]; rfl, rfl⟩
  refine SpecP.mono (f64_spec n1 l 65 0 24 32 (fun p => !fineB t w p.2) _ (fun x _ => f65_spec t w x.1 x.2 [] [] _ rfl rfl out)) ?_
  rintro _ _ ⟨rfl, rfl⟩
  refine And.intro trivial (And.intro trivial ?_)
  refine And.intro (fun h2 => ?_) fun h2 => ?_
  · exact Exists.intro [] ⟨by simp only [asksI, h1, h2]; rfl, rfl⟩
  · exact Exists.intro [] ⟨by simp only [asksI, h1, h2]; rfl, rfl⟩

def givenI (t : Task) (s : List Int) (l : List (Bool × List Int)) : Int := if fineI t s = 0 then asksI t true l else fineI t s
theorem f32_spec (t : Task) (n1 n2 : Bool) (s : List Int) (l : List (Bool × List Int)) (out : List Fr) : SpecP Try.prog 32 [.task t, .ints n1 s, .t (.sl n2 1 (tLs l))] out fun r ro => r = .int (givenI t s l) ∧ ro = [] := by
  refine spec_body cx_ok [] [] (fn := Try.f32) (by kernel_rfl) rfl (by kernel_rfl) rfl (by unfold FnOK; kernel_rfl) fun hok => ?_
  refine SpecP.mono (f55_spec t n1 s []) ?_
  rintro _ _ ⟨rfl, rfl⟩
  refine And.intro (fun h1 => ?_) fun h1 => ?_
  · have h1 : fineI t s ≠ 0 := by simpa using h1
    exact Exists.intro [] ⟨by rw [givenI, if_neg h1]; rfl, rfl⟩
  have h1 : fineI t s = 0 := by simpa using h1
  refine SpecP.mono (f37_spec t true n2 l []) ?_
  rintro _ _ ⟨rfl, rfl⟩
  exact Exists.intro [] ⟨by rw [givenI, if_pos h1]; rfl, rfl⟩

def oq24 : Od := [(4, [(0, .pure), (1, .pure), (2, .eff), (3, .eff), (4, .pure), (5, .pure)])]
theorem f24_spec (t : Task) (n1 : Bool) (p : List Int) (out : List Fr) : SpecP Try.prog 24 [.task t, .ints n1 p] out fun r ro =>
    r = .tup [.bool (decide (asksI t false [(n1, p)] = 0) && closedB t p), .int (asksI t false [(n1, p)])] ∧ ro = [] := by
  refine spec_body cx_ok [] oq24 (fn := Try.f24) (by kernel_rfl) rfl (by kernel_rfl) rfl (by unfold FnOK; kernel_rfl) fun hok => ?_
  refine Exists.intro (tLs [(n1, p)]) (And.intro rfl (And.intro (Nat.le_of_ble_eq_true rfl) ?_))
  refine SpecP.mono (f37_spec t false false [(n1, p)] _) ?_
  rintro _ _ ⟨rfl, rfl⟩
  refine And.intro trivial (And.intro trivial ?_)
  refine And.intro (fun h1 => ?_) fun h1 => ?_
  · have h1 : asksI t false [(n1, p)] ≠ 0 := by simpa using h1
    exact Exists.intro [] ⟨by rw [decide_eq_false h1]; rfl, rfl⟩
  have h1 : asksI t false [(n1, p)] = 0 := by simpa using h1
  refine SpecP.mono (f50_spec n1 p []) ?_
  rintro _ _ ⟨M, hM, hMn, rfl, rfl⟩
  refine And.intro ⟨rfl, rfl, rfl⟩ ?_
  refine SpecP.mono (f49_spec t M (pl 128 48) _ rfl _) ?_
  rintro _ _ ⟨rfl, rfl⟩
  refine And.intro ⟨rfl, rfl, rfl⟩ ?_
  rw [closedB_congr hM, h1]
  refine And.intro (fun h2 => ?_) fun h2 => ?_
  · exact Exists.intro [] ⟨by rw [h2]; rfl, rfl⟩
  · exact Exists.intro [] ⟨by rw [h2]; rfl, rfl⟩

end Go.Fw

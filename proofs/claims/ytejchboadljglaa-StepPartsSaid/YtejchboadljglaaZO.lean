/- Two lists of actions, one after the other: the law StepParts. -/
import Derived.Test.YtejchboadljglaaZN

/- Plans, one after the other: the plain law. -/
namespace Go.Fw
open Go Go.Proofs

theorem getD_left {p q : List Int} {i : Nat} (h : i < p.length) : (p ++ q).getD i 0 = p.getD i 0 := by
  rw [List.getD_eq_getElem?_getD, List.getD_eq_getElem?_getD, List.getElem?_append_left h]
theorem getD_right {p q : List Int} {i : Nat} : (p ++ q).getD (p.length + i) 0 = q.getD i 0 := by
  rw [List.getD_eq_getElem?_getD, List.getD_eq_getElem?_getD, List.getElem?_append_right (by omega), Nat.add_sub_cancel_left]
theorem pAct_left {t : Task} {p q : List Int} {i : Nat} (h : i < p.length) : pAct t (p ++ q) i = pAct t p i := by rw [pAct, pAct, getD_left h]
theorem pAct_right {t : Task} {p q : List Int} {i : Nat} : pAct t (p ++ q) (p.length + i) = pAct t q i := by rw [pAct, pAct, getD_right]
theorem stAt_left {t : Task} {s p q : List Int} : ∀ {i : Nat}, i ≤ p.length → stAt t s (p ++ q) i = stAt t s p i
  | 0, _ => rfl
  | i + 1, h => by rw [stAt, stAt, stAt_left (by omega), pAct_left (by omega)]
theorem stAt_right {t : Task} {s p q : List Int} : ∀ {i : Nat}, stAt t s (p ++ q) (p.length + i) = stAt t (stAt t s p p.length) q i
  | 0 => by rw [Nat.add_zero, stAt_left (Nat.le_refl _)]; rfl
  | i + 1 => by rw [← Nat.add_assoc, stAt, stAt, stAt_right, pAct_right]
theorem costAt_left {t : Task} {p q : List Int} : ∀ {i : Nat}, i ≤ p.length → costAt t (p ++ q) i = costAt t p i
  | 0, _ => rfl
  | i + 1, h => by rw [costAt, costAt, costAt_left (by omega), pAct_left (by omega)]
theorem costAt_right {t : Task} {p q : List Int} : ∀ {i : Nat}, costAt t (p ++ q) (p.length + i) = costAt t p p.length + costAt t q i
  | 0 => by rw [Nat.add_zero, costAt_left (Nat.le_refl _)]; simp [costAt]
  | i + 1 => by rw [← Nat.add_assoc, costAt, costAt, costAt_right, pAct_right]; omega
theorem okAt_left {t : Task} {s p q : List Int} {i : Nat} (h : i < p.length) : okAt t s (p ++ q) i = okAt t s p i := by rw [okAt, okAt, stAt_left (by omega), pAct_left h]
theorem okAt_right {t : Task} {s p q : List Int} {i : Nat} : okAt t s (p ++ q) (p.length + i) = okAt t (stAt t s p p.length) q i := by rw [okAt, okAt, stAt_right, pAct_right]
theorem planB_app {t : Task} {p q : List Int} (hp : planB t p = true) (h : (p ++ q).length ≤ 10000) : planB t (p ++ q) = planB t q := by
  simp only [planB, Bool.and_eq_true, decide_eq_true_eq] at hp
  have hq : q.length ≤ 10000 := by simp at h; omega
  simp only [planB, List.all_append, hp.2, Bool.true_and]
  rw [show decide ((p ++ q).length ≤ 10000) = true by simpa using h, show decide (q.length ≤ 10000) = true by simpa using hq]
/-- The first list stops on its way: so do both. -/
theorem ran_stop {t : Task} {s p q : List Int} {k k3 : Nat} {i l : Int} (h : Ran t s p k i) (hi : 0 ≤ i) (h3 : Ran t s (p ++ q) k3 l) : k3 = k ∧ l = i := by
  rcases h.stop with ⟨_, h1⟩ | ⟨hk, hno, h1⟩
  · omega
  · refine ran_eq h3 ⟨by simp; omega, fun j hj => by rw [okAt_left (by omega)]; exact h.ok j hj, .inr ⟨by simp; omega, by rw [okAt_left hk]; exact hno, h1⟩⟩
/-- The first list is gone through: the second one comes next. -/
theorem ran_go {t : Task} {s p q : List Int} {k k2 k3 : Nat} {i j l : Int} (h : Ran t s p k i) (hi : ¬ 0 ≤ i) (h2 : Ran t (stAt t s p k) q k2 j) (h3 : Ran t s (p ++ q) k3 l) :
    k = p.length ∧ k3 = p.length + k2 ∧ ((0 ≤ j ∧ l = j + p.length) ∨ (j < 0 ∧ l < 0)) := by
  rcases h.stop with ⟨hk, h1⟩ | ⟨_, _, h1⟩
  rotate_left
  · omega
  subst hk
  have hok : ∀ m, m < p.length + k2 → okAt t s (p ++ q) m = true := fun m hm => by
    rcases Nat.lt_or_ge m p.length with hlt | hge
    · rw [okAt_left hlt]; exact h.ok m hlt
    · obtain ⟨m', rfl⟩ : ∃ m', m = p.length + m' := ⟨m - p.length, by omega⟩
      rw [okAt_right]; exact h2.ok m' (by omega)
  rcases h2.stop with ⟨hk2, hj⟩ | ⟨hk2, hno, hj⟩
  · obtain ⟨h4, h5⟩ := ran_eq h3 ⟨by simp; omega, hok, .inl ⟨by simp [hk2], rfl⟩⟩
    exact ⟨rfl, h4, .inr ⟨by omega, by omega⟩⟩
  · obtain ⟨h4, h5⟩ := ran_eq h3 ⟨by simp; omega, hok, .inr ⟨by simp; omega, by rw [okAt_right]; exact hno, rfl⟩⟩
    exact ⟨rfl, h4, .inl ⟨by omega, by omega⟩⟩

def menB (a : Actn) (x : Int) : Bool := a.effs.any fun e => e.lit.fact == x
theorem men_false {l : List Eff} {f : Int} (h : (l.any fun e => e.lit.fact == f) = false) (s : List Int) : posB s l f = false ∧ negB s l f = false := by
  have key : ∀ e ∈ l, (e.lit.fact == f) = false := fun e he => by
    cases hc : e.lit.fact == f with
    | false => rfl
    | true => rw [List.any_eq_true.2 ⟨e, he, hc⟩] at h; cases h
  constructor
  · rw [posB]
    cases hc : l.any fun e => (!e.lit.neg && holdsB s e.when_) && e.lit.fact == f with
    | false => rfl
    | true =>
      obtain ⟨e, he, h2⟩ := List.any_eq_true.1 hc
      rw [key e he] at h2; simp at h2
  · rw [negB]
    cases hc : l.any fun e => (e.lit.neg && holdsB s e.when_) && e.lit.fact == f with
    | false => rfl
    | true =>
      obtain ⟨e, he, h2⟩ := List.any_eq_true.1 hc
      rw [key e he] at h2; simp at h2
theorem men_same {n : Nat} {s : List Int} {l : List Eff} {f : Nat} (hl : factsIn n l) (hs : ∀ x ∈ s, 0 ≤ x ∧ x < (n : Int)) (hf : f < n) (h : (l.any fun e => e.lit.fact == (f : Int)) = false) : hasB (afterL n s l) (f : Int) = hasB s (f : Int) := by
  obtain ⟨h1, h2⟩ := men_false h s
  rw [after_get hl hs hf, h1, h2]; simp

end Go.Fw

/- What the program's functions do, part 49: what a law compares where two lists of actions are executed. -/
namespace Go.Fw
open Go Go.Proofs
set_option maxRecDepth 10000

def kp45 : Kp := [(2, ([1, 8, 9, 10], []))]
theorem f45_spec (a : Actn) (x : Int) (out : List Fr) : SpecP Try.prog 45 [.act a, .int x] out fun r ro => r = .bool (menB a x) ∧ ro = [] := by
  refine spec_body cx_ok kp45 [] (fn := Try.f45) (by kernel_rfl) rfl (by kernel_rfl) rfl (by unfold FnOK; kernel_rfl) fun hok => ?_
  have hmx : (a.effs.length : Int) ≤ 9223372036854775807 := le_max hok.1.2.2.2.1.1
  refine LoopW.mk Nat (fun i => i ≤ a.effs.length ∧ (a.effs.take i).any (fun e => e.lit.fact == x) = false) (fun i => [(1, .int x), (8, .t (.sl a.en 3 (a.effs.map tEff))), (9, .int (a.effs.map tEff).length), (10, .int i)])
    (fun _ => ⟨out, []⟩) (fun i => a.effs.length - i) 0 ⟨Nat.zero_le _, rfl⟩ ⟨rfl, rfl⟩ fun i hI => ?_
  refine And.intro (fun h1 => ?_) fun h1 => ?_
  · have hi := lt_of_dec h1
    refine And.intro (by omega) (Exists.intro _ (And.intro (get_map hi) ?_))
    refine And.intro (fun h2 => ?_) fun h2 => ?_
    · exact Exists.intro [] (ret_bool (any_true hi h2) rfl)
    · refine And.intro (by omega) (And.intro (by omega) ?_)
      exact Exists.intro (i + 1) (And.intro (by show a.effs.length - (i + 1) < a.effs.length - i; omega) (And.intro ⟨hi, any_step hi hI.2 h2⟩ (And.intro rfl rfl)))
  · exact Exists.intro [] (ret_bool (any_end (ge_of_dec h1) hI.2) rfl)

/-- The code behind the first statements. -/
def tlC : Nat → Code → Code
  | 0, c => c
  | n + 1, c => match c with
    | .seq _ b => tlC n b
    | c => c
def bodyC (f : Func) : Code := match f.body with
  | some c => c
  | none => .skip

def od10 : Od := [(10, [(0, .tree (.pure 0 (.pure 1 (.pure 2 (.pure 4 (.fork 3 (.fork 5 (.fork 6 (.pure 7 (.pure 8 (.pure 9 (.pure 10 (.last 11 (.last 12 (.pure 13 (.pure 14 .done)) [9, 10]) [10, 9, 8, 7, 4, 2, 1, 0]))))) [] (.last 11 (.last 6 (.pure 7 (.pure 8 (.pure 9 (.pure 10 (.last 12 (.pure 13 (.pure 14 .done)) [9, 10]))))) []) [0, 1, 2, 4])) [0, 1] (.last 11 (.last 5 (.last 6 (.pure 7 (.pure 8 (.pure 9 (.pure 10 (.last 12 (.pure 13 (.pure 14 .done)) [9, 10]))))) []) [0, 1]) [0, 1, 2, 4])) [0, 1, 4] (.last 11 (.last 3 (.last 5 (.last 6 (.pure 7 (.pure 8 (.pure 9 (.pure 10 (.last 12 (.pure 13 (.pure 14 .done)) [9, 10]))))) []) [0, 1]) [0, 1, 4]) [0, 1, 2, 4])))))))]), (28, [(0, .pure), (1, .pure), (2, .pure), (3, .pure), (4, .pure), (5, .pure), (6, .pure), (7, .pure), (8, .pure), (9, .eff), (10, .pure), (11, .pure), (12, .pure), (13, .pure), (14, .pure), (15, .pure), (16, .pure), (17, .pure), (19, .pure), (20, .pure), (21, .pure), (22, .pure), (23, .pure), (24, .pure), (25, .pure), (18, .eff), (26, .eff), (27, .pure), (28, .pure)])]
def kp10 : Kp := [(22, ([2, 4, 9], [32, 72])), (11, ([2, 4, 9, 10, 13, 14, 15, 16, 17, 18], [32, 72, 104, 128])), (23, ([2, 4, 9, 178, 179], [32, 72])), (26, ([2, 4, 9, 19, 178, 179, 184, 185], [32, 72]))]

theorem f10_loop {t : Task} {s p : List Int} {b1 b2 : Bool} {k : Nat} {ca : Int} {ga : Bool} (TK : TaskOK t) (hs : risingB s t.facts.length = true) (hp : planB t p = true) (hk : k ≤ p.length) (hpl : p.length ≤ 400) (out : List Fr) :
    wpc cxs Try.prog kp10 od10 (tlC 10 (bodyC Try.f10)) [(2, .ints b2 p), (4, .ptr (.cur 32) 0), (9, .ptr (.cur 72) 0)]
      ⟨out, [(32, .box (cellsTask t)), (72, .box [.t (.sl false 1 (stTs b1 t s p k)), .int ca, .bool ga])]⟩
      (retW cxs Try.f10.results.toList fun r ro => r = .bool true ∧ ro = []) := by
  have hN := TK.facts
  have hlen := stTs_len b1 t s p k
  have hfl : (t.facts.map tS).length = t.facts.length := List.length_map ..
  refine And.intro (by omega) (And.intro (by omega) ?_)
  refine LoopW.mk Nat (fun n => n ≤ k) (fun n => [(2, .ints b2 p), (4, .ptr (.cur 32) 0), (9, .ptr (.cur 72) 0), (178, .int ((stTs b1 t s p k).length - 1)), (179, .int n)])
    (fun _ => ⟨out, [(32, .box (cellsTask t)), (72, .box [.t (.sl false 1 (stTs b1 t s p k)), .int ca, .bool ga])]⟩) (fun n => k - n) 0 (Nat.zero_le _) ⟨rfl, rfl⟩ fun n hn => ?_
  refine And.intro (fun h1 => ?_) fun h1 => ?_
  rotate_left
  · refine SpecP.mono (f38_spec []) ?_
    rintro _ _ ⟨rfl, rfl⟩
    refine And.intro (fun _ => ?_) fun h => Bool.noConfusion h
    exact Exists.intro [] (ret_bool rfl rfl)
  have h1 := of_decide_eq_true h1
  have hn1 : n < k := by omega
  have hnp : n < p.length := by omega
  obtain ⟨m, hm1, hm2, hm3, _⟩ := plan_get hp hnp
  have hmem : t.acts[m] ∈ t.acts := List.getElem_mem hm2
  have hst : stAt t s p (n + 1) = afterL t.facts.length (stAt t s p n) t.acts[m].effs := by rw [stAt, hm3]
  have hin := rising_in (st_rising (t := t) (p := p) hs n)
  refine LoopW.mk Nat (fun x => x ≤ t.facts.length) (fun x => [(2, .ints b2 p), (4, .ptr (.cur 32) 0), (9, .ptr (.cur 72) 0), (19, .int n), (178, .int ((stTs b1 t s p k).length - 1)), (179, .int n), (184, .int (t.facts.map tS).length), (185, .int x)])
    (fun _ => ⟨out, [(32, .box (cellsTask t)), (72, .box [.t (.sl false 1 (stTs b1 t s p k)), .int ca, .bool ga])]⟩) (fun x => t.facts.length - x) 0 (Nat.zero_le _) ⟨rfl, rfl⟩ fun x hx => ?_
  refine And.intro (fun h2 => ?_) fun h2 => ?_
  rotate_left
  · refine And.intro (by omega) (And.intro (by omega) ?_)
    exact Exists.intro (n + 1) (And.intro (by show k - (n + 1) < k - n; omega) (And.intro hn1 (And.intro rfl rfl)))
  have hxf : x < t.facts.length := lt_of_dec h2
  refine And.intro (by omega) (Exists.intro (tI m) (And.intro (by rw [← hm1]; exact get_map hnp) ?_))
  refine And.intro (by omega) (Exists.intro _ (And.intro (get_map hm2) ?_))
  refine SpecP.mono (f45_spec t.acts[m] (x : Int) []) ?_
  rintro _ _ ⟨rfl, rfl⟩
  refine And.intro ⟨rfl, rfl, rfl⟩ ?_
  refine And.intro (fun h3 => ?_) fun h3 => ?_
  · refine And.intro (by omega) (And.intro (by omega) ?_)
    exact Exists.intro (x + 1) (And.intro (by show t.facts.length - (x + 1) < t.facts.length - x; omega) (And.intro hxf (And.intro rfl rfl)))
  have hsame : hasB (stAt t s p (n + 1)) (x : Int) = hasB (stAt t s p n) (x : Int) := by
    rw [hst]; exact men_same (TK.lit _ hmem) hin hxf h3
  refine And.intro (by omega) (Exists.intro [tIs (stN b1 t s p n) (stAt t s p n)] (And.intro (by rw [Int.toNat_natCast]; exact stTs_get (by omega)) ?_))
  refine And.intro (by omega) (And.intro (by omega) ?_)
  refine And.intro (by omega) (Exists.intro [tIs (stN b1 t s p (n + 1)) (stAt t s p (n + 1))] (And.intro (by rw [show ((n : Int) + 1).toNat = n + 1 by omega]; exact stTs_get (by omega)) ?_))
  refine SpecP.mono (f26_spec (stN b1 t s p n) (stAt t s p n) (x : Int) []) ?_
  rintro _ _ ⟨rfl, rfl⟩
  refine And.intro ⟨rfl, rfl, rfl⟩ ?_
  refine And.intro (fun h4 => ?_) fun h4 => ?_
  all_goals
    refine SpecP.mono (f26_spec (stN b1 t s p (n + 1)) (stAt t s p (n + 1)) (x : Int) []) ?_
    rintro _ _ ⟨rfl, rfl⟩
    refine And.intro ⟨rfl, rfl, rfl⟩ ?_
    rw [hsame, h4]
    refine And.intro (fun h5 => ?_) fun h5 => ?_
    all_goals
      first
        | exact Bool.noConfusion h5
        | (refine And.intro (fun h => absurd h (by simp)) fun _ => ?_
           refine And.intro (by omega) (And.intro (by omega) ?_)
           exact Exists.intro (x + 1) (And.intro (by show t.facts.length - (x + 1) < t.facts.length - x; omega) (And.intro hxf (And.intro rfl rfl))))

theorem f10_tail {t : Task} {s p : List Int} {b1 b2 : Bool} {k : Nat} {i j l ca cb cc : Int} {ga gb gc : Bool} {RB RC : List (List T)} (TK : TaskOK t) (hs : risingB s t.facts.length = true) (hp : planB t p = true) (hk : k ≤ p.length) (hpl : p.length ≤ 400)
    (hj : j ≤ 10000) (hca : 0 ≤ ca ∧ ca ≤ 1000000000) (hcb : 0 ≤ cb ∧ cb ≤ 1000000000) (hRB : RB.length ≤ 20000)
    (h1 : 0 ≤ i → l = i ∧ cc = ca ∧ gc = ga ∧ RC.length = k + 1) (h2 : ¬ 0 ≤ i → ((0 ≤ j ∧ l = j + p.length) ∨ (j < 0 ∧ l < 0)) ∧ cc = ca + cb ∧ gc = gb ∧ RC.length = k + RB.length) (out : List Fr) :
    wpc cxs Try.prog kp10 od10 (tlC 8 (bodyC Try.f10)) [(2, .ints b2 p), (4, .ptr (.cur 32) 0), (9, .ptr (.cur 72) 0), (10, .int i), (13, .ptr (.cur 104) 0), (14, .int j), (15, .int 0), (16, .ptr (.cur 128) 0), (17, .int l), (18, .int 0)]
      ⟨out, [(32, .box (cellsTask t)), (72, .box [.t (.sl false 1 (stTs b1 t s p k)), .int ca, .bool ga]), (104, .box [.t (.sl false 1 RB), .int cb, .bool gb]), (128, .box [.t (.sl false 1 RC), .int cc, .bool gc])]⟩
      (retW cxs Try.f10.results.toList fun r ro => r = .bool true ∧ ro = []) := by
  have hN := TK.facts
  have hlen := stTs_len b1 t s p k
  refine And.intro (fun h => absurd h (by simp)) fun _ => ?_
  refine And.intro (fun h => absurd h (by simp)) fun _ => ?_
  refine And.intro (fun h3 => ?_) fun h3 => ?_
  · obtain ⟨rfl, rfl, rfl, hRC⟩ := h1 (of_decide_eq_true h3)
    refine And.intro (fun h => absurd h (by simp)) fun _ => ?_
    refine And.intro (fun h => absurd h (by simp)) fun _ => ?_
    refine And.intro (fun h4 => ?_) fun h4 => ?_
    all_goals
      refine And.intro (fun h5 => ?_) fun h5 => ?_
      all_goals
        first
          | (rw [h4] at h5; exact Bool.noConfusion h5)
          | (refine And.intro (fun h => absurd h (by simp)) fun _ => ?_
             refine And.intro (fun h => absurd h (by rw [hRC, hlen]; simp)) fun _ => ?_
             exact f10_loop TK hs hp hk hpl out)
  · have h3 := of_decide_eq_false h3
    obtain ⟨hjl, rfl, rfl, hRC⟩ := h2 (by omega)
    refine And.intro (fun h4 => ?_) fun h4 => ?_
    · have h4 := of_decide_eq_true h4
      have hl : l = j + (p.map tI).length := by rw [List.length_map]; omega
      refine And.intro (by rw [List.length_map]; omega) (And.intro (by rw [List.length_map]; omega) ?_)
      refine And.intro (fun h => absurd h (by rw [hl]; simp)) fun _ => ?_
      refine And.intro (fun h => absurd h (by simp; omega)) fun _ => ?_
      refine And.intro (by omega) (And.intro (by omega) ?_)
      refine And.intro (fun h => absurd h (by simp)) fun _ => ?_
      refine And.intro (fun h5 => ?_) fun h5 => ?_
      all_goals
        refine And.intro (fun h6 => ?_) fun h6 => ?_
        all_goals
          first
            | (rw [h5] at h6; exact Bool.noConfusion h6)
            | (refine And.intro (fun h => absurd h (by simp)) fun _ => ?_
               refine And.intro (by omega) (And.intro (by omega) ?_)
               refine And.intro (by omega) (And.intro (by omega) ?_)
               refine And.intro (fun h => absurd h (by rw [hRC, hlen]; simp; omega)) fun _ => ?_
               exact f10_loop TK hs hp hk hpl out)
    · have h4 := of_decide_eq_false h4
      refine And.intro (fun _ => ?_) fun h => absurd h (by simp; omega)
      refine And.intro (fun h => absurd h (by simp; omega)) fun _ => ?_
      refine And.intro (by omega) (And.intro (by omega) ?_)
      refine And.intro (fun h => absurd h (by simp)) fun _ => ?_
      refine And.intro (fun h5 => ?_) fun h5 => ?_
      all_goals
        refine And.intro (fun h6 => ?_) fun h6 => ?_
        all_goals
          first
            | (rw [h5] at h6; exact Bool.noConfusion h6)
            | (refine And.intro (fun h => absurd h (by simp)) fun _ => ?_
               refine And.intro (by omega) (And.intro (by omega) ?_)
               refine And.intro (by omega) (And.intro (by omega) ?_)
               refine And.intro (fun h => absurd h (by rw [hRC, hlen]; simp; omega)) fun _ => ?_
               exact f10_loop TK hs hp hk hpl out)

end Go.Fw

/- The law StepParts answers true. -/
namespace Go.Fw
open Go Go.Proofs
set_option maxRecDepth 10000

theorem fine_st {t : Task} {s p : List Int} (h : fineI t s = 0) (k : Nat) : fineI t (stAt t s p k) = 0 := by
  obtain ⟨ht, hs⟩ := hts_of h
  rw [fineI, ht, st_rising hs k]; rfl
theorem parts_end {t : Task} {s p q : List Int} {b1 b2 : Bool} {k k2 k3 : Nat} {i j l : Int} (TK : TaskOK t) (hs : risingB s t.facts.length = true) (hp : planB t p = true) (hpl : p.length ≤ 400) (hql : q.length ≤ 400)
    (hr : Ran t s p k i) (h2 : Ran t (stAt t s p k) q k2 j) (h3 : Ran t s (p ++ q) k3 l) (hq : planB t q = true) (nb : Bool) (out : List Fr) :
    wpc cxs Try.prog kp10 od10 (tlC 8 (bodyC Try.f10)) [(2, .ints b2 p), (4, .ptr (.cur 32) 0), (9, .ptr (.cur 72) 0), (10, .int i), (13, .ptr (.cur 104) 0), (14, .int j), (15, .int 0), (16, .ptr (.cur 128) 0), (17, .int l), (18, .int 0)]
      ⟨out, [(32, .box (cellsTask t)), (72, .box [.t (.sl false 1 (stTs b1 t s p k)), .int (costAt t p k), .bool (holdsB (stAt t s p k) t.goal)]),
        (104, .box [.t (.sl false 1 (stTs nb t (stAt t s p k) q k2)), .int (costAt t q k2), .bool (holdsB (stAt t (stAt t s p k) q k2) t.goal)]),
        (128, .box [.t (.sl false 1 (stTs b1 t s (p ++ q) k3)), .int (costAt t (p ++ q) k3), .bool (holdsB (stAt t s (p ++ q) k3) t.goal)])]⟩
      (retW cxs Try.f10.results.toList fun r ro => r = .bool true ∧ ro = []) := by
  have hk := hr.le
  have hk2 := h2.le
  have hca := costAt_in TK hp k hk
  have hcb := costAt_in TK hq k2 hk2
  refine f10_tail TK hs hp hk hpl ?_ (by omega) (by omega) (by rw [stTs_len]; omega) (fun hi => ?_) (fun hi => ?_) out
  · rcases h2.stop with ⟨_, h⟩ | ⟨_, _, h⟩ <;> omega
  · obtain ⟨rfl, rfl⟩ := ran_stop hr hi h3
    rw [costAt_left hk, stAt_left hk, stTs_len]
    exact ⟨rfl, rfl, rfl, rfl⟩
  · obtain ⟨rfl, rfl, hjl⟩ := ran_go hr hi h2 h3
    rw [costAt_right, stAt_right, stTs_len, stTs_len]
    exact ⟨hjl, rfl, rfl, by omega⟩

set_option maxHeartbeats 4000000 in
theorem f10_spec (t : Task) (b1 : Bool) (s : List Int) (b2 : Bool) (p : List Int) (b3 : Bool) (q : List Int) (out : List Fr) : SpecP Try.prog 10 [.task t, .ints b1 s, .ints b2 p, .ints b3 q] out fun r ro => r = .bool true ∧ ro = [] := by
  refine spec_body cxs_ok kp10 od10 (fn := Try.f10) (by kernel_rfl) rfl (by kernel_rfl) rfl (by unfold FnOK; kernel_rfl) fun hok => ?_
  refine Exists.intro (tLs [(b1, s), (b2, p), (b3, q)]) (And.intro rfl (And.intro (Nat.le_of_ble_eq_true rfl) ?_))
  refine SpecP.mono (f37_spec t false [(b1, s), (b2, p), (b3, q)] (by simp) _) ?_
  rintro _ _ ⟨few, hfew, rfl, rfl⟩
  refine And.intro trivial (And.intro trivial ?_)
  refine And.intro (fun hf => ?_) fun _ => ?_
  rotate_left
  · refine SpecP.mono (f38_spec []) ?_
    rintro _ _ ⟨rfl, rfl⟩
    refine And.intro (fun _ => ?_) fun h => Bool.noConfusion h
    exact Exists.intro [] (ret_bool rfl rfl)
  have hpl : p.length ≤ 400 := hfew hf (b2, p) (by simp)
  have hql : q.length ≤ 400 := hfew hf (b3, q) (by simp)
  refine SpecP.mono (f40_spec t b1 s []) ?_
  rintro _ _ ⟨rfl, rfl⟩
  refine And.intro (fun _ => ?_) fun h => ?_
  · refine SpecP.mono (f38_spec []) ?_
    rintro _ _ ⟨rfl, rfl⟩
    refine And.intro (fun _ => ?_) fun h => Bool.noConfusion h
    exact Exists.intro [] (ret_bool rfl rfl)
  have h0 : fineI t s = 0 := by simpa using h
  obtain ⟨ht, hs⟩ := hts_of h0
  have TK := task_ok ht
  cases hp : planB t p with
  | false =>
    refine SpecP.mono (f42_arg (n1 := b1) (n2 := b2) h0 hp) ?_
    rintro _ _ ⟨rfl, rfl⟩
    refine And.intro (fun _ => ?_) fun h => absurd h (by simp)
    refine SpecP.mono (f38_spec []) ?_
    rintro _ _ ⟨rfl, rfl⟩
    refine And.intro (fun _ => ?_) fun h => Bool.noConfusion h
    exact Exists.intro [] (ret_bool rfl rfl)
  | true =>
    refine SpecP.mono (f42_ran (n1 := b1) (n2 := b2) h0 hp) ?_
    rintro _ _ ⟨k, i, hr, rfl, rfl⟩
    refine And.intro (fun h => absurd h (by simp)) fun _ => ?_
    have hlen := stTs_len b1 t s p k
    have hkl := hr.le
    refine And.intro (fun h => absurd h (by rw [hlen]; simp; omega)) fun _ => ?_
    refine And.intro (by rw [List.length_map]; omega) (And.intro (by rw [List.length_map]; omega) ?_)
    refine And.intro (fun h => absurd h (by rw [hlen, List.length_map]; simp; omega)) fun _ => ?_
    refine SpecP.mono (f44_spec t b2 p []) ?_
    rintro _ _ ⟨rfl, rfl⟩
    rw [hp]
    refine And.intro (fun _ => ?_) fun h => Bool.noConfusion h
    refine And.intro (by omega) (And.intro (by omega) ?_)
    refine And.intro (by omega) (Exists.intro [tIs (stN b1 t s p k) (stAt t s p k)] (And.intro (by rw [show (((stTs b1 t s p k).length : Int) - 1).toNat = k by omega]; exact stTs_get (Nat.le_refl k)) ?_))
    have h0' := fine_st (p := p) h0 k
    have hpq0 : planB t (p ++ q) = planB t q := planB_app hp (by simp; omega)
    cases hq : planB t q with
    | false =>
      refine SpecP.mono (f42_arg (n1 := stN b1 t s p k) (n2 := b3) h0' hq) ?_
      rintro _ _ ⟨rfl, rfl⟩
      have hpq : planB t (p ++ q) = false := by rw [hpq0, hq]
      clear hpq0 hq
      cases p with
      | nil =>
        cases q with
        | nil =>
          refine And.intro ?_ ?_
          · refine And.intro rfl (And.intro rfl (And.intro rfl (?_)))
            refine And.intro ?_ ?_
            · refine And.intro rfl (And.intro rfl (?_))
              refine And.intro ?_ ?_
              · refine SpecP.mono (SpecP.conv (conv_third nilc) (f42_arg (n1 := b1) (p := [] ++ []) (n2 := true) h0 hpq)) ?_
                rintro _ _ ⟨rfl, rfl⟩
                refine And.intro rfl (And.intro rfl (And.intro rfl (And.intro rfl (And.intro rfl (And.intro rfl (And.intro rfl (And.intro rfl (?_))))))))
                refine And.intro rfl (And.intro rfl (?_))
                refine And.intro (fun _ => ?_) fun h => absurd h (by simp)
                refine And.intro (fun _ => ?_) fun h => absurd h (by simp)
                refine SpecP.mono (f38_spec []) ?_
                rintro _ _ ⟨rfl, rfl⟩
                refine And.intro (fun _ => ?_) fun h => Bool.noConfusion h
                exact Exists.intro [] (ret_bool rfl rfl)
              · refine And.intro rfl (And.intro rfl (And.intro rfl (And.intro rfl (?_))))
                refine SpecP.mono (SpecP.conv (conv_third nilc) (f42_arg (n1 := b1) (p := [] ++ []) (n2 := true) h0 hpq)) ?_
                rintro _ _ ⟨rfl, rfl⟩
                refine And.intro rfl (And.intro rfl (?_))
                refine And.intro (fun _ => ?_) fun h => absurd h (by simp)
                refine And.intro (fun _ => ?_) fun h => absurd h (by simp)
                refine SpecP.mono (f38_spec []) ?_
                rintro _ _ ⟨rfl, rfl⟩
                refine And.intro (fun _ => ?_) fun h => Bool.noConfusion h
                exact Exists.intro [] (ret_bool rfl rfl)
            · refine And.intro rfl (And.intro rfl (And.intro rfl (And.intro rfl (?_))))
              refine And.intro rfl (And.intro rfl (?_))
              refine SpecP.mono (SpecP.conv (conv_third nilc) (f42_arg (n1 := b1) (p := [] ++ []) (n2 := true) h0 hpq)) ?_
              rintro _ _ ⟨rfl, rfl⟩
              refine And.intro rfl (And.intro rfl (?_))
              refine And.intro (fun _ => ?_) fun h => absurd h (by simp)
              refine And.intro (fun _ => ?_) fun h => absurd h (by simp)
              refine SpecP.mono (f38_spec []) ?_
              rintro _ _ ⟨rfl, rfl⟩
              refine And.intro (fun _ => ?_) fun h => Bool.noConfusion h
              exact Exists.intro [] (ret_bool rfl rfl)
          · refine And.intro rfl (And.intro rfl (And.intro rfl (And.intro rfl (?_))))
            refine And.intro rfl (And.intro rfl (And.intro rfl (?_)))
            refine And.intro rfl (And.intro rfl (?_))
            refine SpecP.mono (SpecP.conv (conv_third nilc) (f42_arg (n1 := b1) (p := [] ++ []) (n2 := true) h0 hpq)) ?_
            rintro _ _ ⟨rfl, rfl⟩
            refine And.intro rfl (And.intro rfl (?_))
            refine And.intro (fun _ => ?_) fun h => absurd h (by simp)
            refine And.intro (fun _ => ?_) fun h => absurd h (by simp)
            refine SpecP.mono (f38_spec []) ?_
            rintro _ _ ⟨rfl, rfl⟩
            refine And.intro (fun _ => ?_) fun h => Bool.noConfusion h
            exact Exists.intro [] (ret_bool rfl rfl)
        | cons z q =>
          have hzq : (tI z :: q.map tI).length ≤ 400 := by simpa using hql
          refine And.intro ?_ ?_
          · refine And.intro rfl (And.intro rfl (And.intro rfl (?_)))
            refine And.intro ?_ ?_
            · refine And.intro (by show (tI z :: q.map tI).length * 8 ≤ _; omega) (And.intro (by show (tI z :: q.map tI).length ≤ _; omega) ?_)
              refine And.intro rfl (And.intro rfl (?_))
              refine And.intro ?_ ?_
              · refine Exists.intro (tI z :: q.map tI) (And.intro take_all (And.intro (by simp) ?_))
                refine Exists.intro (tI z :: q.map tI) (And.intro take_all (And.intro (by simp) ?_))
                refine SpecP.mono (f42_arg (n1 := b1) (p := [] ++ (z :: q)) (n2 := false) h0 hpq) ?_
                rintro _ _ ⟨rfl, rfl⟩
                refine And.intro rfl (And.intro rfl (And.intro rfl (And.intro rfl (And.intro rfl (And.intro rfl (And.intro rfl (And.intro rfl (?_))))))))
                refine And.intro rfl (And.intro rfl (?_))
                refine And.intro (fun _ => ?_) fun h => absurd h (by simp)
                refine And.intro (fun _ => ?_) fun h => absurd h (by simp)
                refine SpecP.mono (f38_spec []) ?_
                rintro _ _ ⟨rfl, rfl⟩
                refine And.intro (fun _ => ?_) fun h => Bool.noConfusion h
                exact Exists.intro [] (ret_bool rfl rfl)
              · refine And.intro rfl (And.intro rfl (And.intro rfl (And.intro rfl (?_))))
                refine Exists.intro (tI z :: q.map tI) (And.intro take_all (And.intro (by simp) ?_))
                refine Exists.intro (tI z :: q.map tI) (And.intro take_all (And.intro (by simp) ?_))
                refine SpecP.mono (f42_arg (n1 := b1) (p := [] ++ (z :: q)) (n2 := false) h0 hpq) ?_
                rintro _ _ ⟨rfl, rfl⟩
                refine And.intro rfl (And.intro rfl (?_))
                refine And.intro (fun _ => ?_) fun h => absurd h (by simp)
                refine And.intro (fun _ => ?_) fun h => absurd h (by simp)
                refine SpecP.mono (f38_spec []) ?_
                rintro _ _ ⟨rfl, rfl⟩
                refine And.intro (fun _ => ?_) fun h => Bool.noConfusion h
                exact Exists.intro [] (ret_bool rfl rfl)
            · refine And.intro rfl (And.intro rfl (And.intro rfl (And.intro rfl (?_))))
              refine And.intro (by show (tI z :: q.map tI).length * 8 ≤ _; omega) (And.intro (by show (tI z :: q.map tI).length ≤ _; omega) ?_)
              refine And.intro rfl (And.intro rfl (?_))
              refine Exists.intro (tI z :: q.map tI) (And.intro take_all (And.intro (by simp) ?_))
              refine Exists.intro (tI z :: q.map tI) (And.intro take_all (And.intro (by simp) ?_))
              refine SpecP.mono (f42_arg (n1 := b1) (p := [] ++ (z :: q)) (n2 := false) h0 hpq) ?_
              rintro _ _ ⟨rfl, rfl⟩
              refine And.intro rfl (And.intro rfl (?_))
              refine And.intro (fun _ => ?_) fun h => absurd h (by simp)
              refine And.intro (fun _ => ?_) fun h => absurd h (by simp)
              refine SpecP.mono (f38_spec []) ?_
              rintro _ _ ⟨rfl, rfl⟩
              refine And.intro (fun _ => ?_) fun h => Bool.noConfusion h
              exact Exists.intro [] (ret_bool rfl rfl)
          · refine And.intro rfl (And.intro rfl (And.intro rfl (And.intro rfl (?_))))
            refine And.intro rfl (And.intro rfl (And.intro rfl (?_)))
            refine And.intro (by show (tI z :: q.map tI).length * 8 ≤ _; omega) (And.intro (by show (tI z :: q.map tI).length ≤ _; omega) ?_)
            refine And.intro rfl (And.intro rfl (?_))
            refine Exists.intro (tI z :: q.map tI) (And.intro take_all (And.intro (by simp) ?_))
            refine Exists.intro (tI z :: q.map tI) (And.intro take_all (And.intro (by simp) ?_))
            refine SpecP.mono (f42_arg (n1 := b1) (p := [] ++ (z :: q)) (n2 := false) h0 hpq) ?_
            rintro _ _ ⟨rfl, rfl⟩
            refine And.intro rfl (And.intro rfl (?_))
            refine And.intro (fun _ => ?_) fun h => absurd h (by simp)
            refine And.intro (fun _ => ?_) fun h => absurd h (by simp)
            refine SpecP.mono (f38_spec []) ?_
            rintro _ _ ⟨rfl, rfl⟩
            refine And.intro (fun _ => ?_) fun h => Bool.noConfusion h
            exact Exists.intro [] (ret_bool rfl rfl)
      | cons y p =>
        have hyp : (tI y :: p.map tI).length ≤ 400 := by simpa using hpl
        cases q with
        | nil =>
          have hcat : ((y :: p) ++ []).map tI = (tI y :: p.map tI) ++ [] := by simp
          have hcl : ((tI y :: p.map tI) ++ []).length ≤ 800 := by simp at hyp ⊢; omega
          refine And.intro ?_ ?_
          · refine And.intro (by show (tI y :: p.map tI).length * 8 ≤ _; omega) (And.intro (by show (tI y :: p.map tI).length ≤ _; omega) ?_)
            refine And.intro rfl (And.intro rfl (And.intro rfl (?_)))
            refine And.intro ?_ ?_
            · refine And.intro rfl (And.intro (by show ((tI y :: p.map tI) ++ []).length * 8 ≤ _; omega) (And.intro (by show ((tI y :: p.map tI) ++ []).length ≤ _; omega) ?_))
              refine And.intro rfl (And.intro rfl (?_))
              refine And.intro ?_ ?_
              · refine Exists.intro (((y :: p) ++ []).map tI) (And.intro (by rw [hcat]; exact take_all) (And.intro (by simp) ?_))
                refine Exists.intro (((y :: p) ++ []).map tI) (And.intro (by rw [hcat]; exact take_all) (And.intro (by simp) ?_))
                refine SpecP.mono (f42_arg (n1 := b1) (p := (y :: p) ++ []) (n2 := false) h0 hpq) ?_
                rintro _ _ ⟨rfl, rfl⟩
                refine And.intro rfl (And.intro rfl (And.intro rfl (And.intro rfl (And.intro rfl (And.intro rfl (And.intro rfl (And.intro rfl (?_))))))))
                refine And.intro rfl (And.intro rfl (?_))
                refine And.intro (fun _ => ?_) fun h => absurd h (by simp)
                refine And.intro (fun _ => ?_) fun h => absurd h (by simp)
                refine SpecP.mono (f38_spec []) ?_
                rintro _ _ ⟨rfl, rfl⟩
                refine And.intro (fun _ => ?_) fun h => Bool.noConfusion h
                exact Exists.intro [] (ret_bool rfl rfl)
              · refine And.intro rfl (And.intro rfl (And.intro rfl (And.intro rfl (?_))))
                refine Exists.intro (((y :: p) ++ []).map tI) (And.intro (by rw [hcat]; exact take_all) (And.intro (by simp) ?_))
                refine Exists.intro (((y :: p) ++ []).map tI) (And.intro (by rw [hcat]; exact take_all) (And.intro (by simp) ?_))
                refine SpecP.mono (f42_arg (n1 := b1) (p := (y :: p) ++ []) (n2 := false) h0 hpq) ?_
                rintro _ _ ⟨rfl, rfl⟩
                refine And.intro rfl (And.intro rfl (?_))
                refine And.intro (fun _ => ?_) fun h => absurd h (by simp)
                refine And.intro (fun _ => ?_) fun h => absurd h (by simp)
                refine SpecP.mono (f38_spec []) ?_
                rintro _ _ ⟨rfl, rfl⟩
                refine And.intro (fun _ => ?_) fun h => Bool.noConfusion h
                exact Exists.intro [] (ret_bool rfl rfl)
            · refine And.intro rfl (And.intro rfl (And.intro rfl (And.intro rfl (?_))))
              refine And.intro rfl (And.intro (by show ((tI y :: p.map tI) ++ []).length * 8 ≤ _; omega) (And.intro (by show ((tI y :: p.map tI) ++ []).length ≤ _; omega) ?_))
              refine And.intro rfl (And.intro rfl (?_))
              refine Exists.intro (((y :: p) ++ []).map tI) (And.intro (by rw [hcat]; exact take_all) (And.intro (by simp) ?_))
              refine Exists.intro (((y :: p) ++ []).map tI) (And.intro (by rw [hcat]; exact take_all) (And.intro (by simp) ?_))
              refine SpecP.mono (f42_arg (n1 := b1) (p := (y :: p) ++ []) (n2 := false) h0 hpq) ?_
              rintro _ _ ⟨rfl, rfl⟩
              refine And.intro rfl (And.intro rfl (?_))
              refine And.intro (fun _ => ?_) fun h => absurd h (by simp)
              refine And.intro (fun _ => ?_) fun h => absurd h (by simp)
              refine SpecP.mono (f38_spec []) ?_
              rintro _ _ ⟨rfl, rfl⟩
              refine And.intro (fun _ => ?_) fun h => Bool.noConfusion h
              exact Exists.intro [] (ret_bool rfl rfl)
          · refine And.intro rfl (And.intro rfl (And.intro rfl (And.intro rfl (?_))))
            refine And.intro (by show (tI y :: p.map tI).length * 8 ≤ _; omega) (And.intro (by show (tI y :: p.map tI).length ≤ _; omega) ?_)
            refine And.intro rfl (And.intro rfl (And.intro rfl (?_)))
            refine And.intro rfl (And.intro (by show ((tI y :: p.map tI) ++ []).length * 8 ≤ _; omega) (And.intro (by show ((tI y :: p.map tI) ++ []).length ≤ _; omega) ?_))
            refine And.intro rfl (And.intro rfl (?_))
            refine Exists.intro (((y :: p) ++ []).map tI) (And.intro (by rw [hcat]; exact take_all) (And.intro (by simp) ?_))
            refine Exists.intro (((y :: p) ++ []).map tI) (And.intro (by rw [hcat]; exact take_all) (And.intro (by simp) ?_))
            refine SpecP.mono (f42_arg (n1 := b1) (p := (y :: p) ++ []) (n2 := false) h0 hpq) ?_
            rintro _ _ ⟨rfl, rfl⟩
            refine And.intro rfl (And.intro rfl (?_))
            refine And.intro (fun _ => ?_) fun h => absurd h (by simp)
            refine And.intro (fun _ => ?_) fun h => absurd h (by simp)
            refine SpecP.mono (f38_spec []) ?_
            rintro _ _ ⟨rfl, rfl⟩
            refine And.intro (fun _ => ?_) fun h => Bool.noConfusion h
            exact Exists.intro [] (ret_bool rfl rfl)
        | cons z q =>
          have hcat : ((y :: p) ++ (z :: q)).map tI = (tI y :: p.map tI) ++ (tI z :: q.map tI) := by simp
          have hcl : ((tI y :: p.map tI) ++ (tI z :: q.map tI)).length ≤ 800 := by simp at hyp hql ⊢; omega
          refine And.intro ?_ ?_
          · refine And.intro (by show (tI y :: p.map tI).length * 8 ≤ _; omega) (And.intro (by show (tI y :: p.map tI).length ≤ _; omega) ?_)
            refine And.intro rfl (And.intro rfl (And.intro rfl (?_)))
            refine And.intro ?_ ?_
            · refine And.intro rfl (And.intro (by show ((tI y :: p.map tI) ++ (tI z :: q.map tI)).length * 8 ≤ _; omega) (And.intro (by show ((tI y :: p.map tI) ++ (tI z :: q.map tI)).length ≤ _; omega) ?_))
              refine And.intro rfl (And.intro rfl (?_))
              refine And.intro ?_ ?_
              · refine Exists.intro (((y :: p) ++ (z :: q)).map tI) (And.intro (by rw [hcat]; exact take_all) (And.intro (by simp) ?_))
                refine Exists.intro (((y :: p) ++ (z :: q)).map tI) (And.intro (by rw [hcat]; exact take_all) (And.intro (by simp) ?_))
                refine SpecP.mono (f42_arg (n1 := b1) (p := (y :: p) ++ (z :: q)) (n2 := false) h0 hpq) ?_
                rintro _ _ ⟨rfl, rfl⟩
                refine And.intro rfl (And.intro rfl (And.intro rfl (And.intro rfl (And.intro rfl (And.intro rfl (And.intro rfl (And.intro rfl (?_))))))))
                refine And.intro rfl (And.intro rfl (?_))
                refine And.intro (fun _ => ?_) fun h => absurd h (by simp)
                refine And.intro (fun _ => ?_) fun h => absurd h (by simp)
                refine SpecP.mono (f38_spec []) ?_
                rintro _ _ ⟨rfl, rfl⟩
                refine And.intro (fun _ => ?_) fun h => Bool.noConfusion h
                exact Exists.intro [] (ret_bool rfl rfl)
              · refine And.intro rfl (And.intro rfl (And.intro rfl (And.intro rfl (?_))))
                refine Exists.intro (((y :: p) ++ (z :: q)).map tI) (And.intro (by rw [hcat]; exact take_all) (And.intro (by simp) ?_))
                refine Exists.intro (((y :: p) ++ (z :: q)).map tI) (And.intro (by rw [hcat]; exact take_all) (And.intro (by simp) ?_))
                refine SpecP.mono (f42_arg (n1 := b1) (p := (y :: p) ++ (z :: q)) (n2 := false) h0 hpq) ?_
                rintro _ _ ⟨rfl, rfl⟩
                refine And.intro rfl (And.intro rfl (?_))
                refine And.intro (fun _ => ?_) fun h => absurd h (by simp)
                refine And.intro (fun _ => ?_) fun h => absurd h (by simp)
                refine SpecP.mono (f38_spec []) ?_
                rintro _ _ ⟨rfl, rfl⟩
                refine And.intro (fun _ => ?_) fun h => Bool.noConfusion h
                exact Exists.intro [] (ret_bool rfl rfl)
            · refine And.intro rfl (And.intro rfl (And.intro rfl (And.intro rfl (?_))))
              refine And.intro rfl (And.intro (by show ((tI y :: p.map tI) ++ (tI z :: q.map tI)).length * 8 ≤ _; omega) (And.intro (by show ((tI y :: p.map tI) ++ (tI z :: q.map tI)).length ≤ _; omega) ?_))
              refine And.intro rfl (And.intro rfl (?_))
              refine Exists.intro (((y :: p) ++ (z :: q)).map tI) (And.intro (by rw [hcat]; exact take_all) (And.intro (by simp) ?_))
              refine Exists.intro (((y :: p) ++ (z :: q)).map tI) (And.intro (by rw [hcat]; exact take_all) (And.intro (by simp) ?_))
              refine SpecP.mono (f42_arg (n1 := b1) (p := (y :: p) ++ (z :: q)) (n2 := false) h0 hpq) ?_
              rintro _ _ ⟨rfl, rfl⟩
              refine And.intro rfl (And.intro rfl (?_))
              refine And.intro (fun _ => ?_) fun h => absurd h (by simp)
              refine And.intro (fun _ => ?_) fun h => absurd h (by simp)
              refine SpecP.mono (f38_spec []) ?_
              rintro _ _ ⟨rfl, rfl⟩
              refine And.intro (fun _ => ?_) fun h => Bool.noConfusion h
              exact Exists.intro [] (ret_bool rfl rfl)
          · refine And.intro rfl (And.intro rfl (And.intro rfl (And.intro rfl (?_))))
            refine And.intro (by show (tI y :: p.map tI).length * 8 ≤ _; omega) (And.intro (by show (tI y :: p.map tI).length ≤ _; omega) ?_)
            refine And.intro rfl (And.intro rfl (And.intro rfl (?_)))
            refine And.intro rfl (And.intro (by show ((tI y :: p.map tI) ++ (tI z :: q.map tI)).length * 8 ≤ _; omega) (And.intro (by show ((tI y :: p.map tI) ++ (tI z :: q.map tI)).length ≤ _; omega) ?_))
            refine And.intro rfl (And.intro rfl (?_))
            refine Exists.intro (((y :: p) ++ (z :: q)).map tI) (And.intro (by rw [hcat]; exact take_all) (And.intro (by simp) ?_))
            refine Exists.intro (((y :: p) ++ (z :: q)).map tI) (And.intro (by rw [hcat]; exact take_all) (And.intro (by simp) ?_))
            refine SpecP.mono (f42_arg (n1 := b1) (p := (y :: p) ++ (z :: q)) (n2 := false) h0 hpq) ?_
            rintro _ _ ⟨rfl, rfl⟩
            refine And.intro rfl (And.intro rfl (?_))
            refine And.intro (fun _ => ?_) fun h => absurd h (by simp)
            refine And.intro (fun _ => ?_) fun h => absurd h (by simp)
            refine SpecP.mono (f38_spec []) ?_
            rintro _ _ ⟨rfl, rfl⟩
            refine And.intro (fun _ => ?_) fun h => Bool.noConfusion h
            exact Exists.intro [] (ret_bool rfl rfl)
    | true =>
      refine SpecP.mono (f42_ran (n1 := stN b1 t s p k) (n2 := b3) h0' hq) ?_
      rintro _ _ ⟨k2, j, h2, rfl, rfl⟩
      have hpq : planB t (p ++ q) = true := by rw [hpq0, hq]
      clear hpq0
      cases p with
      | nil =>
        cases q with
        | nil =>
          refine And.intro ?_ ?_
          · refine And.intro rfl (And.intro rfl (And.intro rfl (?_)))
            refine And.intro ?_ ?_
            · refine And.intro rfl (And.intro rfl (?_))
              refine And.intro ?_ ?_
              · refine SpecP.mono (SpecP.conv (conv_third nilc) (f42_ran (n1 := b1) (p := [] ++ []) (n2 := true) h0 hpq)) ?_
                rintro _ _ ⟨k3, l, h3, rfl, rfl⟩
                refine And.intro rfl (And.intro rfl (And.intro rfl (And.intro rfl (And.intro rfl (And.intro rfl (And.intro rfl (And.intro rfl (?_))))))))
                refine And.intro rfl (And.intro rfl (?_))
                exact parts_end TK hs hp hpl hql hr h2 h3 hq _ out
              · refine And.intro rfl (And.intro rfl (And.intro rfl (And.intro rfl (?_))))
                refine SpecP.mono (SpecP.conv (conv_third nilc) (f42_ran (n1 := b1) (p := [] ++ []) (n2 := true) h0 hpq)) ?_
                rintro _ _ ⟨k3, l, h3, rfl, rfl⟩
                refine And.intro rfl (And.intro rfl (?_))
                exact parts_end TK hs hp hpl hql hr h2 h3 hq _ out
            · refine And.intro rfl (And.intro rfl (And.intro rfl (And.intro rfl (?_))))
              refine And.intro rfl (And.intro rfl (?_))
              refine SpecP.mono (SpecP.conv (conv_third nilc) (f42_ran (n1 := b1) (p := [] ++ []) (n2 := true) h0 hpq)) ?_
              rintro _ _ ⟨k3, l, h3, rfl, rfl⟩
              refine And.intro rfl (And.intro rfl (?_))
              exact parts_end TK hs hp hpl hql hr h2 h3 hq _ out
          · refine And.intro rfl (And.intro rfl (And.intro rfl (And.intro rfl (?_))))
            refine And.intro rfl (And.intro rfl (And.intro rfl (?_)))
            refine And.intro rfl (And.intro rfl (?_))
            refine SpecP.mono (SpecP.conv (conv_third nilc) (f42_ran (n1 := b1) (p := [] ++ []) (n2 := true) h0 hpq)) ?_
            rintro _ _ ⟨k3, l, h3, rfl, rfl⟩
            refine And.intro rfl (And.intro rfl (?_))
            exact parts_end TK hs hp hpl hql hr h2 h3 hq _ out
        | cons z q =>
          have hzq : (tI z :: q.map tI).length ≤ 400 := by simpa using hql
          refine And.intro ?_ ?_
          · refine And.intro rfl (And.intro rfl (And.intro rfl (?_)))
            refine And.intro ?_ ?_
            · refine And.intro (by show (tI z :: q.map tI).length * 8 ≤ _; omega) (And.intro (by show (tI z :: q.map tI).length ≤ _; omega) ?_)
              refine And.intro rfl (And.intro rfl (?_))
              refine And.intro ?_ ?_
              · refine Exists.intro (tI z :: q.map tI) (And.intro take_all (And.intro (by simp) ?_))
                refine Exists.intro (tI z :: q.map tI) (And.intro take_all (And.intro (by simp) ?_))
                refine SpecP.mono (f42_ran (n1 := b1) (p := [] ++ (z :: q)) (n2 := false) h0 hpq) ?_
                rintro _ _ ⟨k3, l, h3, rfl, rfl⟩
                refine And.intro rfl (And.intro rfl (And.intro rfl (And.intro rfl (And.intro rfl (And.intro rfl (And.intro rfl (And.intro rfl (?_))))))))
                refine And.intro rfl (And.intro rfl (?_))
                exact parts_end TK hs hp hpl hql hr h2 h3 hq _ out
              · refine And.intro rfl (And.intro rfl (And.intro rfl (And.intro rfl (?_))))
                refine Exists.intro (tI z :: q.map tI) (And.intro take_all (And.intro (by simp) ?_))
                refine Exists.intro (tI z :: q.map tI) (And.intro take_all (And.intro (by simp) ?_))
                refine SpecP.mono (f42_ran (n1 := b1) (p := [] ++ (z :: q)) (n2 := false) h0 hpq) ?_
                rintro _ _ ⟨k3, l, h3, rfl, rfl⟩
                refine And.intro rfl (And.intro rfl (?_))
                exact parts_end TK hs hp hpl hql hr h2 h3 hq _ out
            · refine And.intro rfl (And.intro rfl (And.intro rfl (And.intro rfl (?_))))
              refine And.intro (by show (tI z :: q.map tI).length * 8 ≤ _; omega) (And.intro (by show (tI z :: q.map tI).length ≤ _; omega) ?_)
              refine And.intro rfl (And.intro rfl (?_))
              refine Exists.intro (tI z :: q.map tI) (And.intro take_all (And.intro (by simp) ?_))
              refine Exists.intro (tI z :: q.map tI) (And.intro take_all (And.intro (by simp) ?_))
              refine SpecP.mono (f42_ran (n1 := b1) (p := [] ++ (z :: q)) (n2 := false) h0 hpq) ?_
              rintro _ _ ⟨k3, l, h3, rfl, rfl⟩
              refine And.intro rfl (And.intro rfl (?_))
              exact parts_end TK hs hp hpl hql hr h2 h3 hq _ out
          · refine And.intro rfl (And.intro rfl (And.intro rfl (And.intro rfl (?_))))
            refine And.intro rfl (And.intro rfl (And.intro rfl (?_)))
            refine And.intro (by show (tI z :: q.map tI).length * 8 ≤ _; omega) (And.intro (by show (tI z :: q.map tI).length ≤ _; omega) ?_)
            refine And.intro rfl (And.intro rfl (?_))
            refine Exists.intro (tI z :: q.map tI) (And.intro take_all (And.intro (by simp) ?_))
            refine Exists.intro (tI z :: q.map tI) (And.intro take_all (And.intro (by simp) ?_))
            refine SpecP.mono (f42_ran (n1 := b1) (p := [] ++ (z :: q)) (n2 := false) h0 hpq) ?_
            rintro _ _ ⟨k3, l, h3, rfl, rfl⟩
            refine And.intro rfl (And.intro rfl (?_))
            exact parts_end TK hs hp hpl hql hr h2 h3 hq _ out
      | cons y p =>
        have hyp : (tI y :: p.map tI).length ≤ 400 := by simpa using hpl
        cases q with
        | nil =>
          have hcat : ((y :: p) ++ []).map tI = (tI y :: p.map tI) ++ [] := by simp
          have hcl : ((tI y :: p.map tI) ++ []).length ≤ 800 := by simp at hyp ⊢; omega
          refine And.intro ?_ ?_
          · refine And.intro (by show (tI y :: p.map tI).length * 8 ≤ _; omega) (And.intro (by show (tI y :: p.map tI).length ≤ _; omega) ?_)
            refine And.intro rfl (And.intro rfl (And.intro rfl (?_)))
            refine And.intro ?_ ?_
            · refine And.intro rfl (And.intro (by show ((tI y :: p.map tI) ++ []).length * 8 ≤ _; omega) (And.intro (by show ((tI y :: p.map tI) ++ []).length ≤ _; omega) ?_))
              refine And.intro rfl (And.intro rfl (?_))
              refine And.intro ?_ ?_
              · refine Exists.intro (((y :: p) ++ []).map tI) (And.intro (by rw [hcat]; exact take_all) (And.intro (by simp) ?_))
                refine Exists.intro (((y :: p) ++ []).map tI) (And.intro (by rw [hcat]; exact take_all) (And.intro (by simp) ?_))
                refine SpecP.mono (f42_ran (n1 := b1) (p := (y :: p) ++ []) (n2 := false) h0 hpq) ?_
                rintro _ _ ⟨k3, l, h3, rfl, rfl⟩
                refine And.intro rfl (And.intro rfl (And.intro rfl (And.intro rfl (And.intro rfl (And.intro rfl (And.intro rfl (And.intro rfl (?_))))))))
                refine And.intro rfl (And.intro rfl (?_))
                exact parts_end TK hs hp hpl hql hr h2 h3 hq _ out
              · refine And.intro rfl (And.intro rfl (And.intro rfl (And.intro rfl (?_))))
                refine Exists.intro (((y :: p) ++ []).map tI) (And.intro (by rw [hcat]; exact take_all) (And.intro (by simp) ?_))
                refine Exists.intro (((y :: p) ++ []).map tI) (And.intro (by rw [hcat]; exact take_all) (And.intro (by simp) ?_))
                refine SpecP.mono (f42_ran (n1 := b1) (p := (y :: p) ++ []) (n2 := false) h0 hpq) ?_
                rintro _ _ ⟨k3, l, h3, rfl, rfl⟩
                refine And.intro rfl (And.intro rfl (?_))
                exact parts_end TK hs hp hpl hql hr h2 h3 hq _ out
            · refine And.intro rfl (And.intro rfl (And.intro rfl (And.intro rfl (?_))))
              refine And.intro rfl (And.intro (by show ((tI y :: p.map tI) ++ []).length * 8 ≤ _; omega) (And.intro (by show ((tI y :: p.map tI) ++ []).length ≤ _; omega) ?_))
              refine And.intro rfl (And.intro rfl (?_))
              refine Exists.intro (((y :: p) ++ []).map tI) (And.intro (by rw [hcat]; exact take_all) (And.intro (by simp) ?_))
              refine Exists.intro (((y :: p) ++ []).map tI) (And.intro (by rw [hcat]; exact take_all) (And.intro (by simp) ?_))
              refine SpecP.mono (f42_ran (n1 := b1) (p := (y :: p) ++ []) (n2 := false) h0 hpq) ?_
              rintro _ _ ⟨k3, l, h3, rfl, rfl⟩
              refine And.intro rfl (And.intro rfl (?_))
              exact parts_end TK hs hp hpl hql hr h2 h3 hq _ out
          · refine And.intro rfl (And.intro rfl (And.intro rfl (And.intro rfl (?_))))
            refine And.intro (by show (tI y :: p.map tI).length * 8 ≤ _; omega) (And.intro (by show (tI y :: p.map tI).length ≤ _; omega) ?_)
            refine And.intro rfl (And.intro rfl (And.intro rfl (?_)))
            refine And.intro rfl (And.intro (by show ((tI y :: p.map tI) ++ []).length * 8 ≤ _; omega) (And.intro (by show ((tI y :: p.map tI) ++ []).length ≤ _; omega) ?_))
            refine And.intro rfl (And.intro rfl (?_))
            refine Exists.intro (((y :: p) ++ []).map tI) (And.intro (by rw [hcat]; exact take_all) (And.intro (by simp) ?_))
            refine Exists.intro (((y :: p) ++ []).map tI) (And.intro (by rw [hcat]; exact take_all) (And.intro (by simp) ?_))
            refine SpecP.mono (f42_ran (n1 := b1) (p := (y :: p) ++ []) (n2 := false) h0 hpq) ?_
            rintro _ _ ⟨k3, l, h3, rfl, rfl⟩
            refine And.intro rfl (And.intro rfl (?_))
            exact parts_end TK hs hp hpl hql hr h2 h3 hq _ out
        | cons z q =>
          have hcat : ((y :: p) ++ (z :: q)).map tI = (tI y :: p.map tI) ++ (tI z :: q.map tI) := by simp
          have hcl : ((tI y :: p.map tI) ++ (tI z :: q.map tI)).length ≤ 800 := by simp at hyp hql ⊢; omega
          refine And.intro ?_ ?_
          · refine And.intro (by show (tI y :: p.map tI).length * 8 ≤ _; omega) (And.intro (by show (tI y :: p.map tI).length ≤ _; omega) ?_)
            refine And.intro rfl (And.intro rfl (And.intro rfl (?_)))
            refine And.intro ?_ ?_
            · refine And.intro rfl (And.intro (by show ((tI y :: p.map tI) ++ (tI z :: q.map tI)).length * 8 ≤ _; omega) (And.intro (by show ((tI y :: p.map tI) ++ (tI z :: q.map tI)).length ≤ _; omega) ?_))
              refine And.intro rfl (And.intro rfl (?_))
              refine And.intro ?_ ?_
              · refine Exists.intro (((y :: p) ++ (z :: q)).map tI) (And.intro (by rw [hcat]; exact take_all) (And.intro (by simp) ?_))
                refine Exists.intro (((y :: p) ++ (z :: q)).map tI) (And.intro (by rw [hcat]; exact take_all) (And.intro (by simp) ?_))
                refine SpecP.mono (f42_ran (n1 := b1) (p := (y :: p) ++ (z :: q)) (n2 := false) h0 hpq) ?_
                rintro _ _ ⟨k3, l, h3, rfl, rfl⟩
                refine And.intro rfl (And.intro rfl (And.intro rfl (And.intro rfl (And.intro rfl (And.intro rfl (And.intro rfl (And.intro rfl (?_))))))))
                refine And.intro rfl (And.intro rfl (?_))
                exact parts_end TK hs hp hpl hql hr h2 h3 hq _ out
              · refine And.intro rfl (And.intro rfl (And.intro rfl (And.intro rfl (?_))))
                refine Exists.intro (((y :: p) ++ (z :: q)).map tI) (And.intro (by rw [hcat]; exact take_all) (And.intro (by simp) ?_))
                refine Exists.intro (((y :: p) ++ (z :: q)).map tI) (And.intro (by rw [hcat]; exact take_all) (And.intro (by simp) ?_))
                refine SpecP.mono (f42_ran (n1 := b1) (p := (y :: p) ++ (z :: q)) (n2 := false) h0 hpq) ?_
                rintro _ _ ⟨k3, l, h3, rfl, rfl⟩
                refine And.intro rfl (And.intro rfl (?_))
                exact parts_end TK hs hp hpl hql hr h2 h3 hq _ out
            · refine And.intro rfl (And.intro rfl (And.intro rfl (And.intro rfl (?_))))
              refine And.intro rfl (And.intro (by show ((tI y :: p.map tI) ++ (tI z :: q.map tI)).length * 8 ≤ _; omega) (And.intro (by show ((tI y :: p.map tI) ++ (tI z :: q.map tI)).length ≤ _; omega) ?_))
              refine And.intro rfl (And.intro rfl (?_))
              refine Exists.intro (((y :: p) ++ (z :: q)).map tI) (And.intro (by rw [hcat]; exact take_all) (And.intro (by simp) ?_))
              refine Exists.intro (((y :: p) ++ (z :: q)).map tI) (And.intro (by rw [hcat]; exact take_all) (And.intro (by simp) ?_))
              refine SpecP.mono (f42_ran (n1 := b1) (p := (y :: p) ++ (z :: q)) (n2 := false) h0 hpq) ?_
              rintro _ _ ⟨k3, l, h3, rfl, rfl⟩
              refine And.intro rfl (And.intro rfl (?_))
              exact parts_end TK hs hp hpl hql hr h2 h3 hq _ out
          · refine And.intro rfl (And.intro rfl (And.intro rfl (And.intro rfl (?_))))
            refine And.intro (by show (tI y :: p.map tI).length * 8 ≤ _; omega) (And.intro (by show (tI y :: p.map tI).length ≤ _; omega) ?_)
            refine And.intro rfl (And.intro rfl (And.intro rfl (?_)))
            refine And.intro rfl (And.intro (by show ((tI y :: p.map tI) ++ (tI z :: q.map tI)).length * 8 ≤ _; omega) (And.intro (by show ((tI y :: p.map tI) ++ (tI z :: q.map tI)).length ≤ _; omega) ?_))
            refine And.intro rfl (And.intro rfl (?_))
            refine Exists.intro (((y :: p) ++ (z :: q)).map tI) (And.intro (by rw [hcat]; exact take_all) (And.intro (by simp) ?_))
            refine Exists.intro (((y :: p) ++ (z :: q)).map tI) (And.intro (by rw [hcat]; exact take_all) (And.intro (by simp) ?_))
            refine SpecP.mono (f42_ran (n1 := b1) (p := (y :: p) ++ (z :: q)) (n2 := false) h0 hpq) ?_
            rintro _ _ ⟨k3, l, h3, rfl, rfl⟩
            refine And.intro rfl (And.intro rfl (?_))
            exact parts_end TK hs hp hpl hql hr h2 h3 hq _ out

end Go.Fw

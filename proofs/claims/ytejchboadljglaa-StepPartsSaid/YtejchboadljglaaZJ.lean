/- What the functions of the program do: Check; the laws of cuts. -/
import Derived.Test.YtejchboadljglaaZI

/- What the program's functions do, part 32: Check (printed by wip/gen32.py). -/
namespace Go.Fw
open Go Go.Proofs
set_option maxRecDepth 10000

theorem f72_spec (a : Nat) (x : Lit) (rest : List Int) (m : Nat) (ha : a < rest.length) (hm : rest.length = m) (fr fr1 : Fr) (out : List Fr) (h1 : look fr1 80 = some (.box [.osl (.cur 272) 1 0 m])) (h2 : look fr1 272 = some (.row 3 1 (rest.map tI))) :
    SpecP Try.prog 72 [.int a, .lit x, .ptr (.fr 1 80) 0] (fr :: fr1 :: out) fun r ro => r = .bool (cntZ rest a x) ∧ ro = [] := by
  refine spec_body cx_ok [] [] (fn := Try.f72) (by kernel_rfl) rfl (by kernel_rfl) rfl (by unfold FnOK; kernel_rfl) fun hok => ?_
  refine Exists.intro (.box [.osl (.fr 1 272) 1 0 m]) (And.intro (by simp only [St.get, List.getElem?_cons_succ, List.getElem?_cons_zero, h1]; rfl) ?_)
  refine And.intro (by omega) (And.intro (by omega) ?_)
  refine Exists.intro (.row 3 1 (rest.map tI)) (And.intro (by simp only [St.get, List.getElem?_cons_succ, List.getElem?_cons_zero, h2]; rfl) (Exists.intro _ (And.intro (getI ha) ?_)))
  refine And.intro (fun h => ?_) fun h => ?_
  · exact Exists.intro [] (ret_bool h rfl)
  · exact Exists.intro [] (ret_bool h rfl)

noncomputable def checkV (t : Task) (s : List Int) (l : List CutX) : LV := if fineI t s = 0 then .tup [.bool (rightB t s l), .bool (rightB t s l && allR t s (cntP t l) t.goal), .int 0] else .tup [.bool false, .bool false, .int (fineI t s)]
def od32 : Od := [(18, [(0, .pure), (1, .pure), (2, .pure), (3, .pure), (4, .pure), (5, .pure), (6, .pure)]), (20, [(0, .pure), (1, .pure), (2, .pure), (3, .pure), (4, .pure), (5, .pure), (6, .pure), (7, .pure), (8, .syn)]), (22, [(0, .pure), (1, .pure), (2, .pure), (3, .pure), (5, .pure), (6, .pure), (4, .eff), (7, .eff)]), (25, [(0, .pure), (1, .pure), (2, .pure), (4, .pure), (5, .pure), (3, .eff), (6, .eff), (7, .pure), (8, .pure), (9, .pure)])]
def kp32 : Kp := [(6, ([1, 2, 3, 10, 24, 25, 26], [24, 80, 272])), (11, ([1, 3, 10, 36, 37, 38], [24, 80, 272])), (16, ([1, 3, 10, 14, 36, 37, 38, 60, 61, 62], [24, 80, 272, 112]))]
set_option maxHeartbeats 4000000 in
theorem f32_spec (t : Task) (n1 nl : Bool) (s : List Int) (l : List CutX) (out : List Fr) : SpecP Try.prog 32 [.task t, .ints n1 s, .cuts nl l] out fun r ro => r = checkV t s l ∧ ro = [] := by
  refine spec_body cx_ok kp32 od32 (fn := Try.f32) (by kernel_rfl) rfl (by kernel_rfl) rfl (by unfold FnOK; kernel_rfl) fun hok => ?_
  have hmx : (l.length : Int) ≤ 9223372036854775807 := le_max (f := tCutX) hok.2.2.1.1
  refine SpecP.mono (f54_spec t n1 s []) ?_
  rintro _ _ ⟨rfl, rfl⟩
  refine And.intro (fun h0 => ?_) fun h0 => ?_
  · have h0 : fineI t s ≠ 0 := by simpa using h0
    exact Exists.intro [] ⟨by rw [checkV, if_neg h0]; rfl, rfl⟩
  have h0 : fineI t s = 0 := by simpa using h0
  obtain ⟨ht, hs⟩ := hts_of h0
  have TK := task_ok ht
  have hN := TK.facts
  have hA := TK.acts
  have hal : (t.acts.map tAct).length = t.acts.length := List.length_map ..
  have no : rightB t s l = false → ∀ {r : LV} {ro : Fr}, r = .tup [.bool false, .bool false, .int 0] → ro = [] → r = checkV t s l ∧ ro = [] := fun h r ro hr hro => by rw [checkV, if_pos h0, h]; exact ⟨hr, hro⟩
  refine LoopW.mk (Nat × List Int) (fun p => p.1 ≤ t.acts.length ∧ p.2 = (t.acts.take p.1).map (·.cost)) (fun p => [(1, .ints n1 s), (2, .cuts nl l), (3, .ptr (.cur 24) 0), (10, .ptr (.cur 80) 0), (24, .t (.sl t.an 4 (t.acts.map tAct))), (25, .int (t.acts.map tAct).length), (26, .int p.1)])
    (fun p => ⟨out, (24, .box (cellsTask t)) :: (80, .box [accV 272 1 (p.2.map tI)]) :: accO 272 3 1 (p.2.map tI)⟩) (fun p => t.acts.length - p.1) (0, []) ⟨Nat.zero_le _, rfl⟩ ⟨rfl, rfl⟩ ?_
  rintro ⟨i, acc⟩ ⟨hi0, hacc⟩
  simp only at hi0 hacc
  cases acc with
  | nil =>
    refine And.intro (fun h1 => ?_) fun h1 => ?_
    · have hi : i < t.acts.length := lt_of_dec h1
      have hst : (t.acts.take (i + 1)).map (·.cost) = ([]) ++ [t.acts[i].cost] := by rw [List.take_add_one, List.getElem?_eq_getElem hi, List.map_append, ← hacc]; rfl
      refine And.intro (by omega) (Exists.intro _ (And.intro (get_map hi) ?_))
      refine And.intro (Nat.le_of_ble_eq_true rfl) (And.intro (Nat.le_of_ble_eq_true rfl) (And.intro (Nat.le_of_ble_eq_true rfl) ?_))
      refine And.intro (by omega) (And.intro (by omega) ?_)
      exact Exists.intro (i + 1, [t.acts[i].cost]) (And.intro (by show t.acts.length - (i + 1) < t.acts.length - i; omega) (And.intro ⟨hi, hst.symm⟩ (And.intro rfl rfl)))
    have hi : i = t.acts.length := by have := ge_of_dec h1; omega
    rw [hi, List.take_length] at hacc
    have hm : t.acts.length = ([] : List Int).length := by rw [hacc, List.length_map]
    clear h1 hi hi0
    refine LoopW.mk (Nat × List Int) (fun p => p.1 ≤ l.length ∧ (∀ c ∈ l.take p.1, okC t s c = true) ∧ Left_ t (paid (l.take p.1)) p.2)
      (fun p => [(1, .ints n1 s), (3, .ptr (.cur 24) 0), (10, .ptr (.cur 80) 0), (36, .cuts nl l), (37, .int (l.map tCutX).length), (38, .int p.1)])
      (fun p => ⟨out, (24, .box (cellsTask t)) :: (80, .box [.t (.sl true 0 [])]) :: []⟩) (fun p => l.length - p.1) (0, []) ⟨Nat.zero_le _, fun c hc => by simp at hc, by rw [hacc]; exact Left_.zero TK⟩ ⟨rfl, rfl⟩ ?_
    rintro ⟨i, rest⟩ ⟨hi0, hoks, hL⟩
    simp only at hi0 hoks hL
    refine And.intro (fun h1 => ?_) fun h1 => ?_
    · have hi : i < l.length := lt_of_dec h1
      have bad : okC t s l[i] = false → rightB t s l = false := fun h => not_right hi h
      refine And.intro (by omega) (Exists.intro _ (And.intro (get_map hi) ?_))
      refine And.intro (fun h2 => ?_) fun h2 => ?_
      · exact Exists.intro [] (no (bad (by have := of_decide_eq_true h2; simp [okC]; omega)) rfl rfl)
      have hc1 : 1 ≤ l[i].cost := by have := of_decide_eq_false h2; omega
      refine And.intro (fun h3 => ?_) fun h3 => ?_
      · exact Exists.intro [] (no (bad (by have := of_decide_eq_true h3; simp [okC]; omega)) rfl rfl)
      have hc2 : l[i].cost ≤ 100000 := by have := of_decide_eq_false h3; omega
      refine SpecP.mono (f71_spec l[i].nil l[i].acts (t.acts.map tAct).length []) ?_
      rintro _ _ ⟨rfl, rfl⟩
      rw [hal]
      refine And.intro (fun hr => ?_) fun hr => ?_
      rotate_left
      · exact Exists.intro [] (no (bad (by simp [okC, hr])) rfl rfl)
      have hjm := le_max (f := tI) (l := l[i].acts) (by
        have hh := okEs_iff.1 hok.2.2.1.2 (tCutX l[i]) (List.mem_map_of_mem (List.getElem_mem hi)) (.sl l[i].nil 1 (l[i].acts.map tI)) (by simp [tCutX])
        exact hh.1)
      refine LoopW.mk (Nat × List Int) (fun p => p.1 ≤ l[i].acts.length ∧ Left_ t (fun a => paid (l.take i) a + if hasB (l[i].acts.take p.1) (a : Int) = true then l[i].cost else 0) p.2)
        (fun p => [(1, .ints n1 s), (3, .ptr (.cur 24) 0), (10, .ptr (.cur 80) 0), (14, .ptr (.cur 112) 0), (36, .cuts nl l), (37, .int (l.map tCutX).length), (38, .int i), (60, .ints l[i].nil l[i].acts), (61, .int (l[i].acts.map tI).length), (62, .int p.1)])
        (fun p => ⟨out, (24, .box (cellsTask t)) :: (80, .box [.t (.sl true 0 [])]) :: (112, .box [.t (.sl l[i].nil 1 (l[i].acts.map tI)), .t (.v (.int .i64 l[i].cost))]) :: []⟩) (fun p => l[i].acts.length - p.1) (0, rest) ⟨Nat.zero_le _, hL.congr fun a _ => by simp [hasB]⟩ ⟨rfl, rfl⟩ ?_
      clear hL
      rintro ⟨j, rest⟩ ⟨hj0, hL⟩
      simp only at hj0 hL
      refine And.intro (fun k1 => ?_) fun k1 => ?_
      · have hj : j < l[i].acts.length := lt_of_dec k1
        have hin := rising_in hr _ (List.getElem_mem hj)
        simp only [List.length_nil] at hm
        omega
      · have hj : l[i].acts.length ≤ j := ge_of_dec k1
        rw [List.take_of_length_le hj] at hL
        refine SpecP.mono (f60_spec t n1 l[i].nil s l[i].acts ht hs []) ?_
        rintro _ _ ⟨b, hb, rfl, rfl⟩
        refine And.intro ⟨rfl, rfl, rfl⟩ ?_
        refine Exists.intro (b.map tB) (And.intro (lend rfl) (And.intro (lend2 rfl) ?_))
        refine SpecP.mono (f57_spec false t.gn b t.goal (fun x hx => (TK.goal x hx).inB hN hb.len) _) ?_
        rintro _ _ ⟨rfl, rfl⟩
        refine And.intro trivial (And.intro trivial (And.intro ⟨rfl, rfl, rfl⟩ ?_))
        rw [hb.all]
        refine And.intro (fun h4 => ?_) fun h4 => ?_
        · exact Exists.intro [] (no (bad (by simp [okC, h4])) rfl rfl)
        have hokc : okC t s l[i] = true := by simp only [okC, hr, h4, Bool.not_false, Bool.and_true, Bool.and_eq_true, decide_eq_true_eq]; exact ⟨hc1, hc2⟩
        refine And.intro (by omega) (And.intro (by omega) ?_)
        refine Exists.intro (i + 1, rest) (And.intro (by show l.length - (i + 1) < l.length - i; omega) (And.intro ⟨hi, fun c hc => ?_, hL.congr fun a _ => ?_⟩ (And.intro rfl rfl)))
        · have hc : c ∈ l.take (i + 1) := hc
          rw [List.take_add_one, List.getElem?_eq_getElem hi] at hc
          rcases List.mem_append.1 hc with hc | hc
          · exact hoks c hc
          · simp at hc; rw [hc]; exact hokc
        · show _ = paid (l.take (i + 1)) a
          rw [paid_take hi, pay]
    have hi : l.length ≤ i := ge_of_dec h1
    rw [List.take_of_length_le hi] at hoks hL
    have hright : rightB t s l = true := right_of hoks fun a ha => by have := hL.2 a ha; omega
    refine SpecP.mono (f58_spec t n1 s 72 80 (cntZ rest) ht hs _ fun fr a x ha _ => by simp only [List.length_nil] at hm; omega) ?_
    rintro _ _ ⟨b, hb, rfl, rfl⟩
    refine And.intro trivial (And.intro ⟨flat_bools, trivial⟩ (And.intro ⟨rfl, rfl, rfl⟩ ?_))
    refine Exists.intro (b.map tB) (And.intro (lend rfl) (And.intro (lend2 rfl) ?_))
    refine SpecP.mono (f57_spec false t.gn b t.goal (fun x hx => (TK.goal x hx).inB hN hb.len) _) ?_
    rintro _ _ ⟨rfl, rfl⟩
    refine And.intro trivial (And.intro trivial (And.intro ⟨rfl, rfl, rfl⟩ ?_))
    have heq : setHas b t.goal = allR t s (cntP t l) t.goal := by
      rw [hb.all]
      refine allR_congr fun a x e hx he => ?_
      have ha := (List.getElem?_eq_some_iff.1 hx).1
      have h3 := hL.2 a ha
      simp only [cntZ, cntP, h3.1]
      cases h4 : (paid l a == costA t a) <;> cases h5 : (costA t a - paid l a == 0) <;> simp at h4 h5 ⊢ <;> omega
    rw [heq]
    refine And.intro (fun k3 => ?_) fun k3 => ?_
    · exact Exists.intro [] ⟨by rw [checkV, if_pos h0, hright, k3]; rfl, rfl⟩
    · exact Exists.intro [] ⟨by rw [checkV, if_pos h0, hright, k3]; rfl, rfl⟩
  | cons x r =>
    refine And.intro (fun h1 => ?_) fun h1 => ?_
    · have hi : i < t.acts.length := lt_of_dec h1
      have hst : (t.acts.take (i + 1)).map (·.cost) = (x :: r) ++ [t.acts[i].cost] := by rw [List.take_add_one, List.getElem?_eq_getElem hi, List.map_append, ← hacc]; rfl
      refine And.intro (by omega) (Exists.intro _ (And.intro (get_map hi) ?_))
      have hln : (x :: r).length = i := by rw [hacc]; simp; omega
      have hln2 : ((tI x :: r.map tI) ++ [tI t.acts[i].cost]).length ≤ i + 1 := by simp at hln ⊢; omega
      refine And.intro (Nat.le_of_ble_eq_true rfl) (And.intro rfl (And.intro (by show ((tI x :: r.map tI) ++ [tI t.acts[i].cost]).length * 8 ≤ _; omega) (And.intro (by show ((tI x :: r.map tI) ++ [tI t.acts[i].cost]).length ≤ _; omega) ?_)))
      refine And.intro (by omega) (And.intro (by omega) ?_)
      have e : (r ++ [t.acts[i].cost]).map tI = r.map tI ++ [tI t.acts[i].cost] := by simp
      refine Exists.intro (i + 1, x :: (r ++ [t.acts[i].cost])) (And.intro (by show t.acts.length - (i + 1) < t.acts.length - i; omega) (And.intro ⟨hi, hst.symm⟩ ?_))
      simp only [List.map_cons, e]
      exact And.intro rfl rfl
    have hi : i = t.acts.length := by have := ge_of_dec h1; omega
    rw [hi, List.take_length] at hacc
    have hm : t.acts.length = (x :: r : List Int).length := by rw [hacc, List.length_map]
    clear h1 hi hi0
    refine LoopW.mk (Nat × List Int) (fun p => p.1 ≤ l.length ∧ (∀ c ∈ l.take p.1, okC t s c = true) ∧ Left_ t (paid (l.take p.1)) p.2)
      (fun p => [(1, .ints n1 s), (3, .ptr (.cur 24) 0), (10, .ptr (.cur 80) 0), (36, .cuts nl l), (37, .int (l.map tCutX).length), (38, .int p.1)])
      (fun p => ⟨out, (24, .box (cellsTask t)) :: (80, .box [.osl (.cur 272) 1 0 ((x :: r).map tI).length]) :: (272, .row 3 1 (p.2.map tI)) :: []⟩) (fun p => l.length - p.1) (0, x :: r) ⟨Nat.zero_le _, fun c hc => by simp at hc, by rw [hacc]; exact Left_.zero TK⟩ ⟨rfl, rfl⟩ ?_
    rintro ⟨i, rest⟩ ⟨hi0, hoks, hL⟩
    simp only at hi0 hoks hL
    refine And.intro (fun h1 => ?_) fun h1 => ?_
    · have hi : i < l.length := lt_of_dec h1
      have bad : okC t s l[i] = false → rightB t s l = false := fun h => not_right hi h
      refine And.intro (by omega) (Exists.intro _ (And.intro (get_map hi) ?_))
      refine And.intro (fun h2 => ?_) fun h2 => ?_
      · exact Exists.intro [] (no (bad (by have := of_decide_eq_true h2; simp [okC]; omega)) rfl rfl)
      have hc1 : 1 ≤ l[i].cost := by have := of_decide_eq_false h2; omega
      refine And.intro (fun h3 => ?_) fun h3 => ?_
      · exact Exists.intro [] (no (bad (by have := of_decide_eq_true h3; simp [okC]; omega)) rfl rfl)
      have hc2 : l[i].cost ≤ 100000 := by have := of_decide_eq_false h3; omega
      refine SpecP.mono (f71_spec l[i].nil l[i].acts (t.acts.map tAct).length []) ?_
      rintro _ _ ⟨rfl, rfl⟩
      rw [hal]
      refine And.intro (fun hr => ?_) fun hr => ?_
      rotate_left
      · exact Exists.intro [] (no (bad (by simp [okC, hr])) rfl rfl)
      have hjm := le_max (f := tI) (l := l[i].acts) (by
        have hh := okEs_iff.1 hok.2.2.1.2 (tCutX l[i]) (List.mem_map_of_mem (List.getElem_mem hi)) (.sl l[i].nil 1 (l[i].acts.map tI)) (by simp [tCutX])
        exact hh.1)
      refine LoopW.mk (Nat × List Int) (fun p => p.1 ≤ l[i].acts.length ∧ Left_ t (fun a => paid (l.take i) a + if hasB (l[i].acts.take p.1) (a : Int) = true then l[i].cost else 0) p.2)
        (fun p => [(1, .ints n1 s), (3, .ptr (.cur 24) 0), (10, .ptr (.cur 80) 0), (14, .ptr (.cur 112) 0), (36, .cuts nl l), (37, .int (l.map tCutX).length), (38, .int i), (60, .ints l[i].nil l[i].acts), (61, .int (l[i].acts.map tI).length), (62, .int p.1)])
        (fun p => ⟨out, (24, .box (cellsTask t)) :: (80, .box [.osl (.cur 272) 1 0 ((x :: r).map tI).length]) :: (272, .row 3 1 (p.2.map tI)) :: (112, .box [.t (.sl l[i].nil 1 (l[i].acts.map tI)), .t (.v (.int .i64 l[i].cost))]) :: []⟩) (fun p => l[i].acts.length - p.1) (0, rest) ⟨Nat.zero_le _, hL.congr fun a _ => by simp [hasB]⟩ ⟨rfl, rfl⟩ ?_
      clear hL
      rintro ⟨j, rest⟩ ⟨hj0, hL⟩
      simp only at hj0 hL
      refine And.intro (fun k1 => ?_) fun k1 => ?_
      · have hj : j < l[i].acts.length := lt_of_dec k1
        have hin := rising_in hr _ (List.getElem_mem hj)
        obtain ⟨k, hk⟩ : ∃ k : Nat, l[i].acts[j] = (k : Int) := ⟨l[i].acts[j].toNat, by omega⟩
        have hkl0 : k < t.acts.length := by omega
        have hks : k < rest.length := by rw [hL.1]; exact hkl0
        have hkm : (k : Int) < ((x :: r).map tI).length := by rw [List.length_map, ← hm]; omega
        have hb0 := (hL.2 k hkl0).2
        have ho := rising_once hr hj
        rw [hk] at ho
        have hb1 := (hL.2 k hkl0).1
        simp only [ho, Bool.false_eq_true, if_false] at hb1
        have hmax : costA t k ≤ 100000 := by rw [costA_get hkl0]; exact (TK.cost _ (List.getElem_mem hkl0)).2
        have hpn : 0 ≤ paid (l.take i) k := paid_nonneg (fun c hc => (okC_cost (hoks c hc)).1) k
        refine And.intro (by omega) (Exists.intro (tI k) (And.intro (by rw [← hk]; exact get_map hj) ?_))
        refine And.intro (by omega) (And.intro hkm (Exists.intro (tI (rest.getD k 0)) (And.intro (getI hks) ?_)))
        refine And.intro (fun k2 => ?_) fun k2 => ?_
        · have k2 : l[i].cost > rest.getD k 0 := of_decide_eq_true k2
          refine Exists.intro [] (no (over_right hi hkl0 (List.any_eq_true.2 ⟨_, List.getElem_mem hj, by rw [hk]; simp⟩) ?_) rfl rfl)
          omega
        have k2 : ¬ l[i].cost > rest.getD k 0 := of_decide_eq_false k2
        obtain ⟨_, _, hstep⟩ := hL.step hr hj hk k2
        refine And.intro (by omega) (And.intro hkm (Exists.intro (tI (rest.getD k 0)) (And.intro (getI hks) ?_)))
        refine And.intro (by omega) (And.intro (by omega) ?_)
        refine And.intro (by omega) (And.intro hkm (Exists.intro (tI (rest.getD k 0)) (And.intro (getI hks) (And.intro (Nat.le_refl 1) ?_))))
        have hset : (rest.map tI).set (0 + ((k : Int)).toNat) (tI (rest.getD k 0 - l[i].cost)) = (rest.set k (rest.getD k 0 - l[i].cost)).map tI := by rw [Nat.zero_add, Int.toNat_natCast, map_setI]
        refine And.intro (by omega) (And.intro (by omega) ?_)
        refine Exists.intro (j + 1, rest.set k (rest.getD k 0 - l[i].cost)) (And.intro (by show l[i].acts.length - (j + 1) < l[i].acts.length - j; omega) (And.intro ⟨hj, hstep⟩ (And.intro rfl ?_)))
        rw [← hset]; rfl
      · have hj : l[i].acts.length ≤ j := ge_of_dec k1
        rw [List.take_of_length_le hj] at hL
        refine SpecP.mono (f60_spec t n1 l[i].nil s l[i].acts ht hs []) ?_
        rintro _ _ ⟨b, hb, rfl, rfl⟩
        refine And.intro ⟨rfl, rfl, rfl⟩ ?_
        refine Exists.intro (b.map tB) (And.intro (lend rfl) (And.intro (lend2 rfl) ?_))
        refine SpecP.mono (f57_spec false t.gn b t.goal (fun x hx => (TK.goal x hx).inB hN hb.len) _) ?_
        rintro _ _ ⟨rfl, rfl⟩
        refine And.intro trivial (And.intro trivial (And.intro ⟨rfl, rfl, rfl⟩ ?_))
        rw [hb.all]
        refine And.intro (fun h4 => ?_) fun h4 => ?_
        · exact Exists.intro [] (no (bad (by simp [okC, h4])) rfl rfl)
        have hokc : okC t s l[i] = true := by simp only [okC, hr, h4, Bool.not_false, Bool.and_true, Bool.and_eq_true, decide_eq_true_eq]; exact ⟨hc1, hc2⟩
        refine And.intro (by omega) (And.intro (by omega) ?_)
        refine Exists.intro (i + 1, rest) (And.intro (by show l.length - (i + 1) < l.length - i; omega) (And.intro ⟨hi, fun c hc => ?_, hL.congr fun a _ => ?_⟩ (And.intro rfl rfl)))
        · have hc : c ∈ l.take (i + 1) := hc
          rw [List.take_add_one, List.getElem?_eq_getElem hi] at hc
          rcases List.mem_append.1 hc with hc | hc
          · exact hoks c hc
          · simp at hc; rw [hc]; exact hokc
        · show _ = paid (l.take (i + 1)) a
          rw [paid_take hi, pay]
    have hi : l.length ≤ i := ge_of_dec h1
    rw [List.take_of_length_le hi] at hoks hL
    have hright : rightB t s l = true := right_of hoks fun a ha => by have := hL.2 a ha; omega
    refine SpecP.mono (f58_spec t n1 s 72 80 (cntZ rest) ht hs _ fun fr a x ha _ => f72_spec a x rest _ (by rw [hL.1]; exact ha) (by rw [hL.1, hm, List.length_map]) fr _ out rfl rfl) ?_
    rintro _ _ ⟨b, hb, rfl, rfl⟩
    refine And.intro trivial (And.intro ⟨flat_bools, trivial⟩ (And.intro ⟨rfl, rfl, rfl⟩ ?_))
    refine Exists.intro (b.map tB) (And.intro (lend rfl) (And.intro (lend2 rfl) ?_))
    refine SpecP.mono (f57_spec false t.gn b t.goal (fun x hx => (TK.goal x hx).inB hN hb.len) _) ?_
    rintro _ _ ⟨rfl, rfl⟩
    refine And.intro trivial (And.intro trivial (And.intro ⟨rfl, rfl, rfl⟩ ?_))
    have heq : setHas b t.goal = allR t s (cntP t l) t.goal := by
      rw [hb.all]
      refine allR_congr fun a x e hx he => ?_
      have ha := (List.getElem?_eq_some_iff.1 hx).1
      have h3 := hL.2 a ha
      simp only [cntZ, cntP, h3.1]
      cases h4 : (paid l a == costA t a) <;> cases h5 : (costA t a - paid l a == 0) <;> simp at h4 h5 ⊢ <;> omega
    rw [heq]
    refine And.intro (fun k3 => ?_) fun k3 => ?_
    · exact Exists.intro [] ⟨by rw [checkV, if_pos h0, hright, k3]; rfl, rfl⟩
    · exact Exists.intro [] ⟨by rw [checkV, if_pos h0, hright, k3]; rfl, rfl⟩

end Go.Fw

/- What the laws MarkCuts and MarkChecks do: they answer true. -/
namespace Go.Fw
open Go Go.Proofs
set_option maxRecDepth 10000

theorem run_len {t : Task} {s : List Int} (hall : allR t s (cntO []) t.goal = true) {rest : List Int} {L : List CutD} (h : CutRun t s rest L) : RestOK t rest → L.length ≤ rest.countP (fun x => decide (x > 0)) := by
  induction h with
  | stop rest b hb hg => intro _; exact Nat.zero_le _
  | step rest b L hb hg h ih =>
    intro hR
    obtain ⟨hR2, hlt, _⟩ := cut_next hR (cut_some hR hb hg hall)
    have := ih hR2
    simp only [List.length_cons]
    omega

def cutsX (l : List CutX) : LV := match l with
  | [] => .t (.sl true 0 [])
  | x :: r => .t (.sl false 2 ((x :: r).map tCutX))
theorem cutsV_X (L : List CutD) : cutsV L = cutsX (L.map cX) := by
  cases L with
  | nil => rfl
  | cons x r => show LV.t (.sl false 2 ((x :: r).map tCut)) = LV.t (.sl false 2 (((x :: r).map cX).map tCutX)); rw [tCut_cX]

theorem conv_34 {a b : LV} {m n : Nat} : ∀ (β : K → Nat) (RO : Nat → Prop) (w : World) (vals : List Value), Vals β RO w [a, b, .t (.sl true m []), .t (.sl true m [])] vals → Vals β RO w [a, b, .t (.sl true n []), .t (.sl true n [])] vals := fun β RO w vals hv =>
  ⟨hv.1, fun i z v hz hvz => by
    match i with
    | 0 => exact hv.2 0 z v hz hvz
    | 1 => exact hv.2 1 z v hz hvz
    | 2 => simp at hz; subst hz; exact nil_sz β RO w v (hv.2 2 _ v rfl hvz)
    | 3 => simp at hz; subst hz; exact nil_sz β RO w v (hv.2 3 _ v rfl hvz)
    | i + 4 => simp at hz⟩

theorem restOK0 {t : Task} (TK : TaskOK t) : RestOK t (t.acts.map (·.cost)) := ⟨by simp, fun x hx => by obtain ⟨y, hy, rfl⟩ := List.mem_map.1 hx; exact TK.cost y hy⟩
theorem cnt_none {t : Task} (TK : TaskOK t) : ∀ a x e, t.acts[a]? = some x → e ∈ x.effs → cntR (List.replicate t.acts.length false) (-1) a e.lit = cntO [] a e.lit := fun a x e hx he => by
  have h1 := code_nonneg (TK.lit x (List.mem_of_getElem? hx) e he)
  have h2 : codeI e.lit ≠ -1 := by omega
  have h3 : (List.replicate t.acts.length false).getD a false = false := by
    rw [List.getD_eq_getElem?_getD, List.getElem?_replicate]; split <;> rfl
  simp only [cntR, cntO, h3, h2, ne_eq, not_false_eq_true, decide_true, Bool.not_false, Bool.and_self, hasB, List.any_nil]

def od5 : Od := [(5, [(0, .pure), (1, .pure), (2, .pure), (3, .pure), (4, .pure), (5, .pure), (6, .pure), (7, .pure), (10, .pure), (11, .pure), (8, .eff), (9, .eff), (12, .eff), (13, .pure), (14, .pure)]), (9, [(0, .pure), (1, .pure), (2, .pure), (4, .pure), (3, .eff), (5, .eff), (6, .eff), (7, .pure), (8, .pure), (9, .pure), (10, .pure), (11, .pure)])]
theorem f5_spec (t : Task) (n1 : Bool) (s : List Int) (out : List Fr) : SpecP Try.prog 5 [.task t, .ints n1 s] out fun r ro => r = .bool true ∧ ro = [] := by
  refine spec_body cx_ok [] od5 (fn := Try.f5) (by kernel_rfl) rfl (by kernel_rfl) rfl (by unfold FnOK; kernel_rfl) fun hok => ?_
  refine SpecP.mono (f13_spec t 300 []) ?_
  rintro _ _ ⟨few, rfl, rfl⟩
  refine And.intro (fun h1 => ?_) fun h1 => ?_
  rotate_left
  · refine SpecP.mono (f14_spec []) ?_
    rintro _ _ ⟨rfl, rfl⟩
    refine And.intro (fun _ => ?_) fun h => Bool.noConfusion h
    exact Exists.intro [] (ret_bool rfl rfl)
  refine And.intro (fun h2 => ?_) fun h2 => ?_
  · refine SpecP.mono (f14_spec []) ?_
    rintro _ _ ⟨rfl, rfl⟩
    refine And.intro (fun _ => ?_) fun h => Bool.noConfusion h
    exact Exists.intro [] (ret_bool rfl rfl)
  refine SpecP.mono (f24c_spec t n1 s []) ?_
  rintro _ _ ⟨⟨h0, rfl⟩ | ⟨h0, hall, rfl⟩ | ⟨h0, hall, L, hL, e1⟩, rfl⟩
  · refine SpecP.mono (f17_spec t n1 s []) ?_
    rintro _ _ ⟨rfl, rfl⟩
    refine And.intro (fun h => absurd (by simpa using h) h0) fun _ => ?_
    refine And.intro (fun _ => ?_) fun h => absurd (by simpa using h) h0
    refine And.intro (fun _ => ?_) fun h => absurd h (by simp)
    refine And.intro (fun _ => ?_) fun h => absurd h (by decide)
    refine SpecP.mono (f14_spec []) ?_
    rintro _ _ ⟨rfl, rfl⟩
    refine And.intro (fun _ => ?_) fun h => Bool.noConfusion h
    exact Exists.intro [] (ret_bool rfl rfl)
  all_goals
    obtain ⟨ht, hs⟩ := hts_of h0
    have TK := task_ok ht
    have hA := TK.acts
    have hal : (t.acts.map tAct).length = t.acts.length := List.length_map ..
    have hrep : (List.replicate t.acts.length false).map tB = ((List.replicate (t.acts.map tAct).length (tB false)).drop 0).take (t.acts.map tAct).length := by
      rw [List.map_replicate, ← hal]
      have := take_all (l := List.replicate (t.acts.map tAct).length (tB false))
      rwa [List.length_replicate] at this
  · refine SpecP.mono (f17_spec t n1 s []) ?_
    rintro _ _ ⟨rfl, rfl⟩
    refine And.intro (fun _ => ?_) fun h => absurd h (by simp [h0])
    refine And.intro rfl (And.intro (by omega) (And.intro (by show ((t.acts.map tAct).length : Int) * (1 : Nat) ≤ _; omega) (And.intro (by omega) ?_)))
    refine Exists.intro _ (And.intro hrep (And.intro (by simp) ?_))
    refine SpecP.mono (f27_spec t n1 false s (List.replicate t.acts.length false) (-1) ht hs (by simp) _) ?_
    rintro _ _ ⟨b, hb, rfl, rfl⟩
    refine And.intro trivial (And.intro ⟨flat_bools, trivial⟩ (And.intro ⟨rfl, rfl, rfl⟩ ?_))
    refine Exists.intro (b.map tB) (And.intro (lend rfl) (And.intro (lend2 rfl) ?_))
    refine SpecP.mono (f28_spec false t.gn b t.goal (fun x hx => (TK.goal x hx).inB TK.facts hb.len) _) ?_
    rintro _ _ ⟨rfl, rfl⟩
    refine And.intro trivial (And.intro trivial (And.intro ⟨rfl, rfl, rfl⟩ ?_))
    rw [hb.all, allR_congr (cnt_none TK), hall]
    refine And.intro (fun h => Bool.noConfusion h) fun _ => ?_
    refine And.intro (fun _ => ?_) fun h => absurd h (by decide)
    refine And.intro (fun _ => ?_) fun h => absurd h (by decide)
    refine And.intro (fun _ => ?_) fun h => absurd h (by decide)
    refine SpecP.mono (f14_spec []) ?_
    rintro _ _ ⟨rfl, rfl⟩
    refine And.intro (fun _ => ?_) fun h => Bool.noConfusion h
    exact Exists.intro [] (ret_bool rfl rfl)
  have hrr := run_right hall hL (restOK0 TK) [] (fun c hc => by cases hc) (Left_.zero TK)
  have hln := run_len hall hL (restOK0 TK)
  have hcp := List.countP_le_length (p := fun x : Int => decide (x > 0)) (l := t.acts.map (·.cost))
  have hXl : (L.map cX).length ≤ 1000000000 := by rw [List.length_map] at hcp ⊢; omega
  rw [cutsV_X] at e1
  rw [List.nil_append] at hrr
  generalize L.map cX = X at e1 hrr hXl
  subst e1
  have m29 : ∀ n2 n3 out, SpecP Try.prog 29 [.task t, .ints n1 s, .t (.sl n2 1 (X.map tRow)), .t (.sl n3 1 (X.map tCost))] out fun r ro => r = .tup [.bool true, .bool true] ∧ ro = [] := fun n2 n3 out =>
    (f29_spec t n1 n2 n3 s X ht hs out).mono fun r ro h => by rw [hrr.1, hrr.2] at h; exact h
  have m32 : ∀ n2, SpecP Try.prog 32 [.task t, .ints n1 s, .cuts n2 X] [] fun r ro => r = .tup [.bool true, .bool true, .int 0] ∧ ro = [] := fun n2 =>
    (f32_spec t n1 n2 s X []).mono fun r ro h => by rw [checkV, if_pos h0, hrr.1, hrr.2] at h; exact h
  have m30 := f30_spec (l := X) (hl := hXl)
  have m31 := f31_spec (l := X) (hl := hXl)
  cases X
  all_goals
    refine SpecP.mono (f17_spec t n1 s []) ?_
    rintro _ _ ⟨rfl, rfl⟩
    refine And.intro (fun _ => ?_) fun h => absurd h (by simp [h0])
    refine And.intro rfl (And.intro (by omega) (And.intro (by show ((t.acts.map tAct).length : Int) * (1 : Nat) ≤ _; omega) (And.intro (by omega) ?_)))
    refine Exists.intro _ (And.intro hrep (And.intro (by simp) ?_))
    refine SpecP.mono (f27_spec t n1 false s (List.replicate t.acts.length false) (-1) ht hs (by simp) _) ?_
    rintro _ _ ⟨b, hb, rfl, rfl⟩
    refine And.intro trivial (And.intro ⟨flat_bools, trivial⟩ (And.intro ⟨rfl, rfl, rfl⟩ ?_))
    refine Exists.intro (b.map tB) (And.intro (lend rfl) (And.intro (lend2 rfl) ?_))
    refine SpecP.mono (f28_spec false t.gn b t.goal (fun x hx => (TK.goal x hx).inB TK.facts hb.len) _) ?_
    rintro _ _ ⟨rfl, rfl⟩
    refine And.intro trivial (And.intro trivial (And.intro ⟨rfl, rfl, rfl⟩ ?_))
    rw [hb.all, allR_congr (cnt_none TK), hall]
    refine And.intro (fun _ => ?_) fun h => Bool.noConfusion h
    refine And.intro (fun h => absurd h (by simp [h0])) fun _ => ?_
    first
      | refine SpecP.conv1 nil_sz (SpecP.mono (m30 true []) ?_)
        rintro _ _ ⟨rfl, rfl⟩
        refine And.intro ⟨rfl, rfl, rfl⟩ ?_
        refine SpecP.conv1 nil_sz (SpecP.mono (m31 true []) ?_)
        rintro _ _ ⟨rfl, rfl⟩
        refine And.intro ⟨rfl, rfl, rfl⟩ ?_
        refine SpecP.conv conv_34 (SpecP.mono (m29 true true []) ?_)
        rintro _ _ ⟨rfl, rfl⟩
        refine And.intro ⟨rfl, rfl, rfl⟩ ?_
      | refine SpecP.mono (m30 false []) ?_
        rintro _ _ ⟨rfl, rfl⟩
        refine And.intro ⟨rfl, rfl, rfl⟩ ?_
        refine SpecP.mono (m31 false []) ?_
        rintro _ _ ⟨rfl, rfl⟩
        refine And.intro ⟨rfl, rfl, rfl⟩ ?_
        refine Exists.intro _ (And.intro take_all (And.intro (by simp) ?_))
        refine Exists.intro _ (And.intro take_all (And.intro (by simp) ?_))
        refine SpecP.mono (m29 false false _) ?_
        rintro _ _ ⟨rfl, rfl⟩
        refine And.intro ⟨trivial, trivial, trivial⟩ (And.intro trivial (And.intro ⟨rfl, rfl, rfl⟩ ?_))
    refine And.intro (fun _ => ?_) fun h => Bool.noConfusion h
    refine And.intro (fun _ => ?_) fun h => Bool.noConfusion h
    first
      | refine SpecP.conv (conv_third nil_sz) (SpecP.mono (m32 true) ?_)
        rintro _ _ ⟨rfl, rfl⟩
      | refine SpecP.mono (m32 false) ?_
        rintro _ _ ⟨rfl, rfl⟩
    refine And.intro (fun _ => ?_) fun h => Bool.noConfusion h
    refine And.intro (fun _ => ?_) fun h => Bool.noConfusion h
    refine And.intro (fun _ => ?_) fun h => absurd h (by decide)
    refine And.intro (fun _ => ?_) fun h => absurd h (by decide)
    refine SpecP.mono (f14_spec []) ?_
    rintro _ _ ⟨rfl, rfl⟩
    refine And.intro (fun _ => ?_) fun h => Bool.noConfusion h
    exact Exists.intro [] (ret_bool rfl rfl)

end Go.Fw

/- What the law MarkChecks does: it answers true. -/
namespace Go.Fw
open Go Go.Proofs
set_option maxRecDepth 10000

def od6 : Od := [(13, [(0, .pure), (1, .pure), (2, .pure), (4, .pure), (3, .eff), (5, .eff), (6, .eff), (7, .pure), (8, .pure), (9, .pure), (10, .pure), (11, .pure)])]
def kp6 : Kp := [(4, ([1, 2, 3, 29, 30, 31], [24]))]
theorem f6_spec (t : Task) (n1 nl : Bool) (s : List Int) (l : List CutX) (out : List Fr) : SpecP Try.prog 6 [.task t, .ints n1 s, .cuts nl l] out fun r ro => r = .bool true ∧ ro = [] := by
  refine spec_body cx_ok kp6 od6 (fn := Try.f6) (by kernel_rfl) rfl (by kernel_rfl) rfl (by unfold FnOK; kernel_rfl) fun hok => ?_
  have hmx : (l.length : Int) ≤ 9223372036854775807 := le_max (f := tCutX) hok.2.2.1.1
  refine SpecP.mono (f13_spec t 300 []) ?_
  rintro _ _ ⟨few, rfl, rfl⟩
  refine And.intro (fun h1 => ?_) fun h1 => ?_
  rotate_left
  · refine SpecP.mono (f14_spec []) ?_
    rintro _ _ ⟨rfl, rfl⟩
    refine And.intro (fun _ => ?_) fun h => Bool.noConfusion h
    exact Exists.intro [] (ret_bool rfl rfl)
  refine And.intro (fun h2 => ?_) fun h2 => ?_
  · refine SpecP.mono (f14_spec []) ?_
    rintro _ _ ⟨rfl, rfl⟩
    refine And.intro (fun _ => ?_) fun h => Bool.noConfusion h
    exact Exists.intro [] (ret_bool rfl rfl)
  refine And.intro (fun h2 => ?_) fun h2 => ?_
  · refine SpecP.mono (f14_spec []) ?_
    rintro _ _ ⟨rfl, rfl⟩
    refine And.intro (fun _ => ?_) fun h => Bool.noConfusion h
    exact Exists.intro [] (ret_bool rfl rfl)
  have hl30 : l.length ≤ 1000000000 := by have := of_decide_eq_false h2; simp at this; omega
  refine LoopW.mk Nat (fun i => i ≤ l.length) (fun i => [(1, .ints n1 s), (2, .cuts nl l), (3, .ptr (.cur 24) 0), (29, .cuts nl l), (30, .int (l.map tCutX).length), (31, .int i)])
    (fun _ => ⟨out, [(24, .box (cellsTask t))]⟩) (fun i => l.length - i) 0 (Nat.zero_le _) ⟨rfl, rfl⟩ fun i hI => ?_
  refine And.intro (fun k1 => ?_) fun k1 => ?_
  · have hi := lt_of_dec k1
    refine And.intro (by omega) (Exists.intro _ (And.intro (get_map hi) ?_))
    refine And.intro (fun k2 => ?_) fun k2 => ?_
    · refine SpecP.mono (f14_spec []) ?_
      rintro _ _ ⟨rfl, rfl⟩
      refine And.intro (fun _ => ?_) fun h => Bool.noConfusion h
      exact Exists.intro [] (ret_bool rfl rfl)
    · refine And.intro (by omega) (And.intro (by omega) ?_)
      exact Exists.intro (i + 1) (And.intro (by show l.length - (i + 1) < l.length - i; omega) (And.intro hi (And.intro rfl rfl)))
  have m32 := f32_spec t n1 nl s l []
  by_cases h0 : fineI t s = 0
  rotate_left
  · rw [checkV, if_neg h0] at m32
    refine SpecP.mono m32 ?_
    rintro _ _ ⟨rfl, rfl⟩
    refine And.intro (fun h => Bool.noConfusion h) fun _ => ?_
    refine And.intro (fun h => Bool.noConfusion h) fun _ => ?_
    refine SpecP.mono (f17_spec t n1 s []) ?_
    rintro _ _ ⟨rfl, rfl⟩
    refine And.intro (fun _ => ?_) fun h => absurd (by simpa using h) h0
    refine And.intro (fun _ => ?_) fun h => absurd h (by simp)
    refine SpecP.mono (f14_spec []) ?_
    rintro _ _ ⟨rfl, rfl⟩
    refine And.intro (fun _ => ?_) fun h => Bool.noConfusion h
    exact Exists.intro [] (ret_bool rfl rfl)
  obtain ⟨ht, hs⟩ := hts_of h0
  rw [checkV, if_pos h0] at m32
  have m29 := fun n2 n3 => f29_spec t n1 n2 n3 s l ht hs
  have m30 := f30_spec nl l hl30
  have m31 := f31_spec nl l hl30
  generalize (rightB t s l && allR t s (cntP t l) t.goal) = g2 at m32 m29
  generalize rightB t s l = g1 at m32 m29
  cases g1
  all_goals
    cases g2
    all_goals
      cases l
      all_goals
        refine SpecP.mono m32 ?_
        rintro _ _ ⟨rfl, rfl⟩
        first
          | refine And.intro (fun _ => ?_) fun h => Bool.noConfusion (h : true = false)
          | refine And.intro (fun h => Bool.noConfusion (h : false = true)) fun _ => ?_
        first
          | refine And.intro (fun _ => ?_) fun h => Bool.noConfusion (h : true = false)
          | refine And.intro (fun h => Bool.noConfusion (h : false = true)) fun _ => ?_
        refine SpecP.mono (f17_spec t n1 s []) ?_
        rintro _ _ ⟨rfl, rfl⟩
        refine And.intro (fun h => absurd h (by simp [h0])) fun _ => ?_
        refine SpecP.mono (m30 []) ?_
        rintro _ _ ⟨rfl, rfl⟩
        refine And.intro ⟨rfl, rfl, rfl⟩ ?_
        refine SpecP.mono (m31 []) ?_
        rintro _ _ ⟨rfl, rfl⟩
        refine And.intro ⟨rfl, rfl, rfl⟩ ?_
        first
          | refine SpecP.conv conv_34 (SpecP.mono (m29 true true []) ?_)
            rintro _ _ ⟨rfl, rfl⟩
            refine And.intro ⟨rfl, rfl, rfl⟩ ?_
          | refine Exists.intro _ (And.intro take_all (And.intro (by simp) ?_))
            refine Exists.intro _ (And.intro take_all (And.intro (by simp) ?_))
            refine SpecP.mono (m29 false false _) ?_
            rintro _ _ ⟨rfl, rfl⟩
            refine And.intro ⟨trivial, trivial, trivial⟩ (And.intro trivial (And.intro ⟨rfl, rfl, rfl⟩ ?_))
        first
          | refine And.intro (fun _ => ?_) fun h => Bool.noConfusion (h : true = false)
          | refine And.intro (fun h => Bool.noConfusion (h : false = true)) fun _ => ?_
        first
          | refine And.intro (fun _ => ?_) fun h => Bool.noConfusion (h : true = false)
          | refine And.intro (fun h => Bool.noConfusion (h : false = true)) fun _ => ?_
        refine And.intro (fun _ => ?_) fun h => absurd h (by decide)
        refine And.intro (fun _ => ?_) fun h => absurd h (by decide)
        refine And.intro (fun _ => ?_) fun h => absurd h (by decide)
        refine SpecP.mono (f14_spec []) ?_
        rintro _ _ ⟨rfl, rfl⟩
        refine And.intro (fun _ => ?_) fun h => Bool.noConfusion h
        exact Exists.intro [] (ret_bool rfl rfl)

end Go.Fw

/- What the functions of the program do: cuts, the example, the law MarkLists. -/
import Derived.Test.YtejchboadljglaaZG

/- What the program's functions do, part 24: Cuts (printed by wip/gen24.py). -/
namespace Go.Fw
open Go Go.Proofs
set_option maxRecDepth 10000

def od24 : Od := [(4, [(0, .pure), (1, .pure), (3, .pure), (4, .pure), (2, .eff), (5, .eff), (6, .pure)]), (22, [(0, .pure), (1, .pure), (2, .pure), (3, .pure), (4, .pure), (5, .pure), (6, .pure), (7, .pure), (8, .pure), (9, .pure), (10, .pure), (11, .pure)]), (28, [(0, .pure), (1, .pure), (2, .pure), (3, .pure), (4, .pure), (5, .pure), (6, .pure), (7, .pure), (8, .syn)])]
def kp24 : Kp := [(8, ([1, 2, 7, 31, 32, 33], [16, 56, 328])), (13, ([1, 2, 7, 10], [16, 56, 328, 960])), (18, ([1, 2, 7, 10, 11, 12, 53, 54, 55], [16, 56, 328, 88, 369001291, 96, 648, 960])), (26, ([1, 2, 7, 10, 12, 102, 103, 104], [16, 56, 328, 96, 648, 960]))]
theorem restOf_bound {c : Int} (h0 : 0 < c) (h1 : c ≤ 100000) {rest : List Int} (hr : ∀ x ∈ rest, 0 ≤ x ∧ x ≤ 100000) (l : List Int) : ∀ x ∈ restOf rest c l, -(100000 * (l.length : Int)) ≤ x ∧ x ≤ 100000 := by
  induction l using snocRec with
  | nil => intro x hx; have := hr x hx; simp; omega
  | snoc l a ih =>
    intro x hx
    rw [restOf_snoc, restStep] at hx
    simp only [List.length_append, List.length_cons, List.length_nil]
    have hg : -(100000 * (l.length : Int)) ≤ (restOf rest c l).getD a.toNat 0 ∧ (restOf rest c l).getD a.toNat 0 ≤ 100000 := by
      rcases Nat.lt_or_ge a.toNat (restOf rest c l).length with h | h
      · rw [List.getD_eq_getElem?_getD, List.getElem?_eq_getElem h]; exact ih _ (List.getElem_mem h)
      · rw [List.getD_eq_getElem?_getD, List.getElem?_eq_none h]; simp; omega
    rcases List.mem_or_eq_of_mem_set hx with hx | rfl
    · have := ih x hx; omega
    · omega
theorem map_setI {b : List Int} {i : Nat} {x : Int} : (b.map tI).set i (tI x) = (b.set i x).map tI := by rw [List.map_set]

set_option maxHeartbeats 4000000 in
theorem f24_spec (t : Task) (n1 : Bool) (s : List Int) (out : List Fr) :
    SpecP Try.prog 24 [.task t, .ints n1 s] out fun r ro => (fineI t s ≠ 0 ∧ r = .tup [.t (.sl true 0 []), .int (fineI t s)] ∧ ro = []) ∨
      (fineI t s = 0 ∧ allR t s (cntO []) t.goal = false ∧ r = .tup [.t (.sl true 0 []), .int 4] ∧ ro = []) ∨
      (fineI t s = 0 ∧ allR t s (cntO []) t.goal = true ∧ ∃ L, CutRun t s (t.acts.map (·.cost)) L ∧ r = .tup [accV 960 2 (L.map tCut), .int 0] ∧ ro = accO 960 54 2 (L.map tCut)) := by
  refine spec_body cx_ok kp24 od24 (fn := Try.f24) (by kernel_rfl) rfl (by kernel_rfl) rfl (by unfold FnOK; kernel_rfl) fun hok => ?_
  refine SpecP.mono (f54_spec t n1 s []) ?_
  rintro _ _ ⟨rfl, rfl⟩
  refine And.intro (fun h0 => ?_) fun h0 => ?_
  · exact Exists.intro [] (.inl ⟨by simpa using h0, rfl, rfl⟩)
  have h0 : fineI t s = 0 := by simpa using h0
  obtain ⟨ht, hs⟩ := hts_of h0
  have TK := task_ok ht
  have hN := TK.facts
  have hA := TK.acts
  have hal : (t.acts.map tAct).length = t.acts.length := List.length_map ..
  refine SpecP.conv (conv_third nil_sz) (SpecP.mono (f60_spec t n1 true s [] ht hs _) ?_)
  rintro _ _ ⟨b0, hb0, rfl, rfl⟩
  refine And.intro ⟨rfl, rfl, rfl⟩ ?_
  refine Exists.intro (b0.map tB) (And.intro (lend rfl) (And.intro (lend2 rfl) ?_))
  refine SpecP.mono (f57_spec false t.gn b0 t.goal (fun x hx => (TK.goal x hx).inB hN hb0.len) _) ?_
  rintro _ _ ⟨rfl, rfl⟩
  refine And.intro trivial (And.intro trivial (And.intro ⟨rfl, rfl, rfl⟩ ?_))
  rw [hb0.all]
  refine And.intro (fun hall => ?_) fun hall => ?_
  rotate_left
  · exact Exists.intro [] (.inr (.inl ⟨h0, hall, rfl, rfl⟩))
  clear hb0
  refine LoopW.mk (Nat × List Int) (fun p => p.1 ≤ t.acts.length ∧ p.2 = (t.acts.take p.1).map (·.cost)) (fun p => [(1, .ints n1 s), (2, .ptr (.cur 16) 0), (7, .ptr (.cur 56) 0), (31, .t (.sl t.an 4 (t.acts.map tAct))), (32, .int (t.acts.map tAct).length), (33, .int p.1)])
    (fun p => ⟨out, (16, .box (cellsTask t)) :: (56, .box [accV 328 1 (p.2.map tI)]) :: accO 328 3 1 (p.2.map tI)⟩) (fun p => t.acts.length - p.1) (0, []) ⟨Nat.zero_le _, rfl⟩ ⟨rfl, rfl⟩ ?_
  rintro ⟨i, acc⟩ ⟨hi0, hacc⟩
  simp only at hi0 hacc
  cases acc
  case' nil =>
    refine And.intro (fun h1 => ?_) fun h1 => ?_
    · have hi : i < t.acts.length := lt_of_dec h1
      have hst : (t.acts.take (i + 1)).map (·.cost) = ([]) ++ [t.acts[i].cost] := by rw [List.take_add_one, List.getElem?_eq_getElem hi, List.map_append, ← hacc]; rfl
      refine And.intro (by omega) (Exists.intro _ (And.intro (get_map hi) ?_))
      refine And.intro (Nat.le_of_ble_eq_true rfl) (And.intro (Nat.le_of_ble_eq_true rfl) (And.intro (Nat.le_of_ble_eq_true rfl) ?_))
      refine And.intro (by omega) (And.intro (by omega) ?_)
      exact Exists.intro (i + 1, [t.acts[i].cost]) (And.intro (by show t.acts.length - (i + 1) < t.acts.length - i; omega) (And.intro ⟨hi, hst.symm⟩ (And.intro rfl rfl)))
    have hi : i = t.acts.length := by have := ge_of_dec h1; omega
    rw [hi, List.take_length] at hacc
    refine LoopW.mk (List Int × List CutD) (fun p => RestOK t p.1 ∧ (∀ L, CutRun t s p.1 L → CutRun t s (t.acts.map (·.cost)) (p.2 ++ L)) ∧ p.2.length + p.1.countP (fun x => decide (x > 0)) ≤ 1000)
      (fun p => [(1, .ints n1 s), (2, .ptr (.cur 16) 0), (7, .ptr (.cur 56) 0), (10, accV 960 2 (p.2.map tCut))])
      (fun p => ⟨out, (16, .box (cellsTask t)) :: (56, .box [accV 328 1 (p.1.map tI)]) :: (accO 328 3 1 (p.1.map tI) ++ accO 960 54 2 (p.2.map tCut))⟩) (fun p => p.1.countP (fun x => decide (x > 0))) ([], [])
      ⟨by rw [hacc]; exact ⟨by simp, fun x hx => by obtain ⟨y, hy, rfl⟩ := List.mem_map.1 hx; exact TK.cost y hy⟩, fun L h => by rw [← hacc]; exact h, by
        have h1 := List.countP_le_length (p := fun x : Int => decide (x > 0)) (l := [])
        have h2 : ([] : List Int).length = t.acts.length := by rw [hacc]; simp
        show 0 + ([] : List Int).countP (fun x => decide (x > 0)) ≤ 1000
        omega⟩ ⟨rfl, rfl⟩ ?_
  case' cons x r =>
    refine And.intro (fun h1 => ?_) fun h1 => ?_
    · have hi : i < t.acts.length := lt_of_dec h1
      have hst : (t.acts.take (i + 1)).map (·.cost) = (x :: r) ++ [t.acts[i].cost] := by rw [List.take_add_one, List.getElem?_eq_getElem hi, List.map_append, ← hacc]; rfl
      refine And.intro (by omega) (Exists.intro _ (And.intro (get_map hi) ?_))
      have hln : (x :: r).length = i := by rw [hacc]; simp; omega
      have hln2 : ((tI x :: r.map tI) ++ [tI t.acts[i].cost]).length ≤ i + 1 := by simp at hln ⊢; omega
      refine And.intro (Nat.le_of_ble_eq_true rfl) (And.intro rfl (And.intro (by show ((tI x :: r.map tI) ++ [tI t.acts[i].cost]).length * 8 ≤ _; omega) (And.intro (by show ((tI x :: r.map tI) ++ [tI t.acts[i].cost]).length ≤ _; omega) ?_)))
      refine And.intro (by omega) (And.intro (by omega) ?_)
      have e : (r ++ [t.acts[i].cost]).map tI = r.map tI ++ [tI t.acts[i].cost] := by simp
      refine Exists.intro (i + 1, x :: (r ++ [t.acts[i].cost])) (And.intro (by show t.acts.length - (i + 1) < t.acts.length - i; omega) (And.intro ⟨hi, hst.symm⟩ ?_))
      simp only [List.map_cons, e]
      exact And.intro rfl rfl
    have hi : i = t.acts.length := by have := ge_of_dec h1; omega
    rw [hi, List.take_length] at hacc
    refine LoopW.mk (List Int × List CutD) (fun p => RestOK t p.1 ∧ (∀ L, CutRun t s p.1 L → CutRun t s (t.acts.map (·.cost)) (p.2 ++ L)) ∧ p.2.length + p.1.countP (fun x => decide (x > 0)) ≤ 1000)
      (fun p => [(1, .ints n1 s), (2, .ptr (.cur 16) 0), (7, .ptr (.cur 56) 0), (10, accV 960 2 (p.2.map tCut))])
      (fun p => ⟨out, (16, .box (cellsTask t)) :: (56, .box [accV 328 1 (p.1.map tI)]) :: (accO 328 3 1 (p.1.map tI) ++ accO 960 54 2 (p.2.map tCut))⟩) (fun p => p.1.countP (fun x => decide (x > 0))) (x :: r, [])
      ⟨by rw [hacc]; exact ⟨by simp, fun x hx => by obtain ⟨y, hy, rfl⟩ := List.mem_map.1 hx; exact TK.cost y hy⟩, fun L h => by rw [← hacc]; exact h, by
        have h1 := List.countP_le_length (p := fun x : Int => decide (x > 0)) (l := x :: r)
        have h2 : (x :: r : List Int).length = t.acts.length := by rw [hacc]; simp
        show 0 + (x :: r : List Int).countP (fun x => decide (x > 0)) ≤ 1000
        omega⟩ ⟨rfl, rfl⟩ ?_
  all_goals
    clear hi0 hacc h1 hi
    rintro ⟨rest, L0⟩ ⟨hR, hrun, hcnt⟩
    simp only at hR hrun hcnt
    have hbig : rest.length = t.acts.length := hR.1
    cases rest with
    | nil =>
      cases L0 with
      | nil =>
        refine SpecP.mono (f58_spec t n1 s 65 56 (cntZ []) ht hs _ fun fr a x ha _ => by simp at hbig; omega) ?_
        rintro _ _ ⟨b, hb, rfl, rfl⟩
        refine And.intro trivial (And.intro ⟨flat_bools, trivial⟩ ?_)
        refine Exists.intro (b.map tB) (And.intro (lend rfl) (And.intro (lend2 rfl) ?_))
        refine SpecP.mono (f57_spec false t.gn b t.goal (fun x hx => (TK.goal x hx).inB hN hb.len) _) ?_
        rintro _ _ ⟨rfl, rfl⟩
        refine And.intro trivial (And.intro trivial ?_)
        refine And.intro (fun h3 => ?_) fun h3 => ?_
        · refine Exists.intro [960] (.inr (.inr ⟨h0, hall, [], ?_, rfl, rfl⟩))
          have := hrun [] (.stop _ b hb h3)
          simpa using this
        · exact absurd (by rw [cutActs, ← hbig]; rfl) (cut_some hR hb h3 hall)
      | cons z q =>
        refine SpecP.mono (f58_spec t n1 s 65 56 (cntZ []) ht hs _ fun fr a x ha _ => by simp at hbig; omega) ?_
        rintro _ _ ⟨b, hb, rfl, rfl⟩
        refine And.intro trivial (And.intro ⟨flat_bools, trivial⟩ ?_)
        refine Exists.intro (b.map tB) (And.intro (lend rfl) (And.intro (lend2 rfl) ?_))
        refine SpecP.mono (f57_spec false t.gn b t.goal (fun x hx => (TK.goal x hx).inB hN hb.len) _) ?_
        rintro _ _ ⟨rfl, rfl⟩
        refine And.intro trivial (And.intro trivial ?_)
        refine And.intro (fun h3 => ?_) fun h3 => ?_
        · refine Exists.intro [960] (.inr (.inr ⟨h0, hall, z :: q, ?_, rfl, rfl⟩))
          have := hrun [] (.stop _ b hb h3)
          simpa using this
        · exact absurd (by rw [cutActs, ← hbig]; rfl) (cut_some hR hb h3 hall)
    | cons x0 r0 =>
      cases L0 with
      | nil =>
        refine SpecP.mono (f58_spec t n1 s 65 56 (cntZ (x0 :: r0)) ht hs _ fun fr a x ha _ => f65_spec a x (x0 :: r0) _ (by rw [hbig]; exact ha) (List.length_map ..).symm fr _ out rfl rfl) ?_
        rintro _ _ ⟨b, hb, rfl, rfl⟩
        refine And.intro trivial (And.intro ⟨flat_bools, trivial⟩ ?_)
        refine Exists.intro (b.map tB) (And.intro (lend rfl) (And.intro (lend2 rfl) ?_))
        refine SpecP.mono (f57_spec false t.gn b t.goal (fun x hx => (TK.goal x hx).inB hN hb.len) _) ?_
        rintro _ _ ⟨rfl, rfl⟩
        refine And.intro trivial (And.intro trivial ?_)
        refine And.intro (fun h3 => ?_) fun h3 => ?_
        · refine Exists.intro [960] (.inr (.inr ⟨h0, hall, [], ?_, rfl, rfl⟩))
          have := hrun [] (.stop _ b hb h3)
          simpa using this
        have hne := cut_some hR hb h3 hall
        refine LoopW.mk (Nat × List Int × Int) (fun p => p.1 ≤ t.acts.length ∧ p.2.1 = selI p.1 (hitA t (x0 :: r0) b) ∧ p.2.2 = costOf (x0 :: r0) p.2.1)
          (fun p => [(1, .ints n1 s), (2, .ptr (.cur 16) 0), (7, .ptr (.cur 56) 0), (10, accV 960 2 (([] : List CutD).map tCut)), (11, .ptr (.cur 88) 0), (12, .ptr (.cur 96) 0), (53, .t (.sl t.an 4 (t.acts.map tAct))), (54, .int (t.acts.map tAct).length), (55, .int p.1)])
          (fun p => ⟨out, (16, .box (cellsTask t)) :: (56, .box [.osl (.cur 328) 1 0 ((x0 :: r0).map tI).length]) :: (328, .row 3 1 ((x0 :: r0).map tI)) :: (88, .box [.osl (.cur 369001291) 1 0 b.length]) :: (369001291, .row 4 1 (b.map tB)) :: (96, .box [accV 648 1 (p.2.1.map tI), .t (.v (.int .i64 p.2.2))]) :: (accO 648 3 1 (p.2.1.map tI) ++ accO 960 54 2 (([] : List CutD).map tCut))⟩) (fun p => t.acts.length - p.1) (0, [], 0) ⟨Nat.zero_le _, rfl, rfl⟩ ⟨rfl, rfl⟩ ?_
        rintro ⟨i, A, c⟩ ⟨hi0, hAc, hc⟩
        simp only at hi0 hAc hc
        cases A with
        | nil =>
          refine And.intro (fun h4 => ?_) fun h4 => ?_
          · have hi : i < t.acts.length := lt_of_dec h4
            have hax : t.acts[i]? = some t.acts[i] := List.getElem?_eq_getElem hi
            have hmem : t.acts[i] ∈ t.acts := List.getElem_mem hi
            have hir : i < (x0 :: r0).length := by rw [hbig]; exact hi
            have hil : (i : Int) < ((x0 :: r0).map tI).length := by simp at hir ⊢; omega
            have hE := TK.effs _ hmem
            have hst := selI_step i (hitA t (x0 :: r0) b)
            have miss : hitA t (x0 :: r0) b i = false → selI (i + 1) (hitA t (x0 :: r0) b) = [] := fun h => by rw [hst, ← hAc, h]; simp
            have hit : hitA t (x0 :: r0) b i = true → selI (i + 1) (hitA t (x0 :: r0) b) = ([]) ++ [(i : Int)] := fun h => by rw [hst, ← hAc, h]; rfl
            refine And.intro (by omega) (Exists.intro _ (And.intro (get_map hi) ?_))
            refine And.intro (by omega) (And.intro hil (Exists.intro _ (And.intro (getI hir) ?_)))
            refine And.intro (fun h5 => ?_) fun h5 => ?_
            rotate_left
            · refine And.intro (by omega) (And.intro (by omega) ?_)
              exact Exists.intro (i + 1, [], c) (And.intro (by show t.acts.length - (i + 1) < t.acts.length - i; omega) (And.intro ⟨hi, (miss (by rw [hitA, h5]; rfl)).symm, hc⟩ (And.intro rfl rfl)))
            refine Exists.intro (b.map tB) (And.intro (lend rfl) (And.intro (lend2 rfl) ?_))
            refine SpecP.mono (f57_spec false t.acts[i].pn b t.acts[i].pre (fun x hx => (TK.pre _ hmem x hx).inB hN hb.len) _) ?_
            rintro _ _ ⟨rfl, rfl⟩
            refine And.intro trivial (And.intro trivial ?_)
            refine And.intro (fun h6 => ?_) fun h6 => ?_
            rotate_left
            · refine And.intro (by omega) (And.intro (by omega) ?_)
              exact Exists.intro (i + 1, [], c) (And.intro (by show t.acts.length - (i + 1) < t.acts.length - i; omega) (And.intro ⟨hi, (miss (by rw [hitA, hax, h5]; simp only [h6]; rfl)).symm, hc⟩ (And.intro rfl rfl)))
            refine SpecP.mono (f66_spec t.acts[i].en t.acts[i].effs 67 0 88 (hitE b) _ (fun x hx => f67_spec x b b.length rfl ((TK.lit _ hmem x hx).inB hN hb.len) (fun l hl => (TK.whn _ hmem x hx l hl).inB hN hb.len) [] [] _ out rfl rfl)) ?_
            rintro _ _ ⟨rfl, rfl⟩
            refine And.intro trivial (And.intro trivial ?_)
            refine And.intro (fun h7 => ?_) fun h7 => ?_
            rotate_left
            · refine And.intro (by omega) (And.intro (by omega) ?_)
              exact Exists.intro (i + 1, [], c) (And.intro (by show t.acts.length - (i + 1) < t.acts.length - i; omega) (And.intro ⟨hi, (miss (by rw [hitA, hax, h5]; simp only [h6, h7]; rfl)).symm, hc⟩ (And.intro rfl rfl)))
            have hyes : hitA t (x0 :: r0) b i = true := by rw [hitA, hax, h5]; simp only [h6, h7]; rfl
            have hcs : costOf (x0 :: r0) (([]) ++ [(i : Int)]) = costStep (x0 :: r0) c i := by rw [costOf_snoc, hc]
            refine And.intro (Nat.le_of_ble_eq_true rfl) (And.intro (Nat.le_of_ble_eq_true rfl) (And.intro (Nat.le_of_ble_eq_true rfl) ?_))
            refine And.intro (fun h8 => ?_) fun h8 => ?_
            · refine And.intro (by omega) (And.intro hil (Exists.intro _ (And.intro (getI hir) ?_)))
              refine And.intro (by omega) (And.intro (by omega) ?_)
              refine Exists.intro (i + 1, [(i : Int)], (x0 :: r0).getD i 0) (And.intro (by show t.acts.length - (i + 1) < t.acts.length - i; omega) (And.intro ⟨hi, (hit hyes).symm, ?_⟩ ?_))
              · show (x0 :: r0).getD i 0 = costOf (x0 :: r0) (([]) ++ [(i : Int)])
                rw [hcs, costStep, h8, Int.toNat_natCast]
                rfl
              · exact And.intro rfl rfl
            · refine And.intro (by omega) (And.intro hil (Exists.intro _ (And.intro (getI hir) ?_)))
              refine And.intro (fun h9 => ?_) fun h9 => ?_
              · refine And.intro (by omega) (And.intro hil (Exists.intro _ (And.intro (getI hir) ?_)))
                refine And.intro (by omega) (And.intro (by omega) ?_)
                refine Exists.intro (i + 1, [(i : Int)], (x0 :: r0).getD i 0) (And.intro (by show t.acts.length - (i + 1) < t.acts.length - i; omega) (And.intro ⟨hi, (hit hyes).symm, ?_⟩ ?_))
                · show (x0 :: r0).getD i 0 = costOf (x0 :: r0) (([]) ++ [(i : Int)])
                  rw [hcs, costStep, h8, Int.toNat_natCast, h9]
                  rfl
                · exact And.intro rfl rfl
              · refine And.intro (by omega) (And.intro (by omega) ?_)
                refine Exists.intro (i + 1, [(i : Int)], c) (And.intro (by show t.acts.length - (i + 1) < t.acts.length - i; omega) (And.intro ⟨hi, (hit hyes).symm, ?_⟩ ?_))
                · show c = costOf (x0 :: r0) (([]) ++ [(i : Int)])
                  rw [hcs, costStep, h8, Int.toNat_natCast, h9]
                  rfl
                · exact And.intro rfl rfl
          · have hi : i = t.acts.length := by have := ge_of_dec h4; omega
            rw [hi] at hAc
            exact absurd hAc.symm hne
        | cons y w =>
          refine And.intro (fun h4 => ?_) fun h4 => ?_
          · have hi : i < t.acts.length := lt_of_dec h4
            have hax : t.acts[i]? = some t.acts[i] := List.getElem?_eq_getElem hi
            have hmem : t.acts[i] ∈ t.acts := List.getElem_mem hi
            have hir : i < (x0 :: r0).length := by rw [hbig]; exact hi
            have hil : (i : Int) < ((x0 :: r0).map tI).length := by simp at hir ⊢; omega
            have hE := TK.effs _ hmem
            have hst := selI_step i (hitA t (x0 :: r0) b)
            have miss : hitA t (x0 :: r0) b i = false → selI (i + 1) (hitA t (x0 :: r0) b) = y :: w := fun h => by rw [hst, ← hAc, h]; simp
            have hit : hitA t (x0 :: r0) b i = true → selI (i + 1) (hitA t (x0 :: r0) b) = (y :: w) ++ [(i : Int)] := fun h => by rw [hst, ← hAc, h]; rfl
            refine And.intro (by omega) (Exists.intro _ (And.intro (get_map hi) ?_))
            refine And.intro (by omega) (And.intro hil (Exists.intro _ (And.intro (getI hir) ?_)))
            refine And.intro (fun h5 => ?_) fun h5 => ?_
            rotate_left
            · refine And.intro (by omega) (And.intro (by omega) ?_)
              exact Exists.intro (i + 1, y :: w, c) (And.intro (by show t.acts.length - (i + 1) < t.acts.length - i; omega) (And.intro ⟨hi, (miss (by rw [hitA, h5]; rfl)).symm, hc⟩ (And.intro rfl rfl)))
            refine Exists.intro (b.map tB) (And.intro (lend rfl) (And.intro (lend2 rfl) ?_))
            refine SpecP.mono (f57_spec false t.acts[i].pn b t.acts[i].pre (fun x hx => (TK.pre _ hmem x hx).inB hN hb.len) _) ?_
            rintro _ _ ⟨rfl, rfl⟩
            refine And.intro trivial (And.intro trivial ?_)
            refine And.intro (fun h6 => ?_) fun h6 => ?_
            rotate_left
            · refine And.intro (by omega) (And.intro (by omega) ?_)
              exact Exists.intro (i + 1, y :: w, c) (And.intro (by show t.acts.length - (i + 1) < t.acts.length - i; omega) (And.intro ⟨hi, (miss (by rw [hitA, hax, h5]; simp only [h6]; rfl)).symm, hc⟩ (And.intro rfl rfl)))
            refine SpecP.mono (f66_spec t.acts[i].en t.acts[i].effs 67 0 88 (hitE b) _ (fun x hx => f67_spec x b b.length rfl ((TK.lit _ hmem x hx).inB hN hb.len) (fun l hl => (TK.whn _ hmem x hx l hl).inB hN hb.len) [] [] _ out rfl rfl)) ?_
            rintro _ _ ⟨rfl, rfl⟩
            refine And.intro trivial (And.intro trivial ?_)
            refine And.intro (fun h7 => ?_) fun h7 => ?_
            rotate_left
            · refine And.intro (by omega) (And.intro (by omega) ?_)
              exact Exists.intro (i + 1, y :: w, c) (And.intro (by show t.acts.length - (i + 1) < t.acts.length - i; omega) (And.intro ⟨hi, (miss (by rw [hitA, hax, h5]; simp only [h6, h7]; rfl)).symm, hc⟩ (And.intro rfl rfl)))
            have hyes : hitA t (x0 :: r0) b i = true := by rw [hitA, hax, h5]; simp only [h6, h7]; rfl
            have hcs : costOf (x0 :: r0) ((y :: w) ++ [(i : Int)]) = costStep (x0 :: r0) c i := by rw [costOf_snoc, hc]
            have hln : (y :: w).length ≤ i := by rw [hAc]; exact selI_len i _
            have hln2 : ((tI y :: w.map tI) ++ [tI i]).length ≤ i + 1 := by simp at hln ⊢; omega
            have e : (w ++ [(i : Int)]).map tI = w.map tI ++ [tI i] := by simp
            refine And.intro (Nat.le_of_ble_eq_true rfl) (And.intro rfl (And.intro (by show ((tI y :: w.map tI) ++ [tI i]).length * 8 ≤ _; omega) (And.intro (by show ((tI y :: w.map tI) ++ [tI i]).length ≤ _; omega) ?_)))
            refine And.intro (fun h8 => ?_) fun h8 => ?_
            · refine And.intro (by omega) (And.intro hil (Exists.intro _ (And.intro (getI hir) ?_)))
              refine And.intro (by omega) (And.intro (by omega) ?_)
              refine Exists.intro (i + 1, y :: (w ++ [(i : Int)]), (x0 :: r0).getD i 0) (And.intro (by show t.acts.length - (i + 1) < t.acts.length - i; omega) (And.intro ⟨hi, (hit hyes).symm, ?_⟩ ?_))
              · show (x0 :: r0).getD i 0 = costOf (x0 :: r0) ((y :: w) ++ [(i : Int)])
                rw [hcs, costStep, h8, Int.toNat_natCast]
                rfl
              · simp only [List.map_cons, e]
                exact And.intro rfl rfl
            · refine And.intro (by omega) (And.intro hil (Exists.intro _ (And.intro (getI hir) ?_)))
              refine And.intro (fun h9 => ?_) fun h9 => ?_
              · refine And.intro (by omega) (And.intro hil (Exists.intro _ (And.intro (getI hir) ?_)))
                refine And.intro (by omega) (And.intro (by omega) ?_)
                refine Exists.intro (i + 1, y :: (w ++ [(i : Int)]), (x0 :: r0).getD i 0) (And.intro (by show t.acts.length - (i + 1) < t.acts.length - i; omega) (And.intro ⟨hi, (hit hyes).symm, ?_⟩ ?_))
                · show (x0 :: r0).getD i 0 = costOf (x0 :: r0) ((y :: w) ++ [(i : Int)])
                  rw [hcs, costStep, h8, Int.toNat_natCast, h9]
                  rfl
                · simp only [List.map_cons, e]
                  exact And.intro rfl rfl
              · refine And.intro (by omega) (And.intro (by omega) ?_)
                refine Exists.intro (i + 1, y :: (w ++ [(i : Int)]), c) (And.intro (by show t.acts.length - (i + 1) < t.acts.length - i; omega) (And.intro ⟨hi, (hit hyes).symm, ?_⟩ ?_))
                · show c = costOf (x0 :: r0) ((y :: w) ++ [(i : Int)])
                  rw [hcs, costStep, h8, Int.toNat_natCast, h9]
                  rfl
                · simp only [List.map_cons, e]
                  exact And.intro rfl rfl
          · have hi : i = t.acts.length := by have := ge_of_dec h4; omega
            rw [hi] at hAc
            have hAc' : y :: w = cutActs t (x0 :: r0) b := hAc
            have hnx := cut_next hR hne
            rw [← hAc', ← hc] at hnx
            obtain ⟨hR2, hless, hc0, hc1⟩ := hnx
            have hyl : (y :: w).length ≤ 1000 := by rw [hAc]; exact Nat.le_trans (selI_len _ _) hA
            refine LoopW.mk Nat (fun j => j ≤ (y :: w).length) (fun j => [(1, .ints n1 s), (2, .ptr (.cur 16) 0), (7, .ptr (.cur 56) 0), (10, accV 960 2 (([] : List CutD).map tCut)), (12, .ptr (.cur 96) 0), (102, .osl (.cur 648) 1 0 ((y :: w).map tI).length), (103, .int ((y :: w).map tI).length), (104, .int j)])
              (fun j => ⟨out, (16, .box (cellsTask t)) :: (56, .box [.osl (.cur 328) 1 0 ((x0 :: r0).map tI).length]) :: (328, .row 3 1 ((restOf (x0 :: r0) c ((y :: w).take j)).map tI)) :: (96, .box [.osl (.cur 648) 1 0 ((y :: w).map tI).length, .t (.v (.int .i64 c))]) :: (648, .row 3 1 ((y :: w).map tI)) :: accO 960 54 2 (([] : List CutD).map tCut)⟩) (fun j => (y :: w).length - j) 0 (Nat.zero_le _) ⟨rfl, rfl⟩ fun j hj0 => ?_
            refine And.intro (fun k1 => ?_) fun k1 => ?_
            · have hj : j < (y :: w).length := by have := of_decide_eq_true k1; simp at this ⊢; omega
              have hjl : (j : Int) < ((y :: w).map tI).length := by simp at hj ⊢; omega
              have hmem : (y :: w)[j] ∈ y :: w := List.getElem_mem hj
              obtain ⟨k, hk1, hk2, _⟩ := selI_mem ((show ∀ z ∈ y :: w, z ∈ selI t.acts.length (hitA t (x0 :: r0) b) from by rw [hAc]; exact fun _ h => h) _ hmem)
              have hgd : (y :: w).getD j 0 = (k : Int) := by rw [List.getD_eq_getElem?_getD, List.getElem?_eq_getElem hj]; exact hk1
              have hrl : (restOf (x0 :: r0) c ((y :: w).take j)).length = (x0 :: r0).length := restOf_length ..
              have hkl : k < (restOf (x0 :: r0) c ((y :: w).take j)).length := by rw [hrl, hbig]; exact hk2
              have hkl2 : (k : Int) < ((x0 :: r0).map tI).length := by rw [List.length_map, hbig]; omega
              have hbd : -(100000000 : Int) ≤ (restOf (x0 :: r0) c ((y :: w).take j)).getD k 0 ∧ (restOf (x0 :: r0) c ((y :: w).take j)).getD k 0 ≤ 100000 := by
                have := restOf_bound hc0 hc1 hR.2 ((y :: w).take j) _ (List.getElem_mem hkl)
                rw [List.getD_eq_getElem?_getD, List.getElem?_eq_getElem hkl]
                have hl : ((y :: w).take j).length ≤ 1000 := by rw [List.length_take]; omega
                simp only [Option.getD_some]; omega
              refine And.intro (by omega) (And.intro hjl (Exists.intro (tI k) (And.intro (by rw [← hgd]; exact getI hj) ?_)))
              refine And.intro (by omega) (And.intro hkl2 (Exists.intro _ (And.intro (getI hkl) ?_)))
              refine And.intro (by omega) (And.intro (by omega) ?_)
              refine And.intro (by omega) (And.intro hkl2 (Exists.intro _ (And.intro (getI hkl) (And.intro (Nat.le_refl 1) ?_))))
              refine And.intro (by omega) (And.intro (by omega) ?_)
              refine Exists.intro (j + 1) (And.intro (by show (y :: w).length - (j + 1) < (y :: w).length - j; omega) (And.intro hj (And.intro rfl ?_)))
              have e : ((restOf (x0 :: r0) c ((y :: w).take j)).map tI).set (0 + ((k : Int)).toNat) (tI ((restOf (x0 :: r0) c ((y :: w).take j)).getD k 0 - c)) = (restOf (x0 :: r0) c ((y :: w).take (j + 1))).map tI := by
                rw [Nat.zero_add, map_setI, List.take_add_one, List.getElem?_eq_getElem hj, Option.toList_some, restOf_snoc, restStep, hk1]; rfl
              rw [← e]; rfl
            · have hj : j = (y :: w).length := by have h := of_decide_eq_false k1; have h' : j ≤ (y :: w).length := hj0; simp at h h' ⊢; omega
              subst hj
              have hl1 : (restOf (x0 :: r0) c (y :: w)).length = (x0 :: r0).length := restOf_length ..
              obtain ⟨x1, r1, hr1⟩ : ∃ x1 r1, restOf (x0 :: r0) c (y :: w) = x1 :: r1 := by
                cases hh : restOf (x0 :: r0) c (y :: w) with
                | nil => rw [hh] at hl1; simp at hl1
                | cons x1 r1 => exact ⟨x1, r1, rfl⟩
              have hlen : ((x0 :: r0).map tI).length = ((x1 :: r1).map tI).length := by rw [hr1] at hl1; rw [List.length_map, List.length_map, hl1]
              rw [List.take_length, hr1, hlen]
              rw [hr1] at hR2 hless
              have e3 : List.take (tI y :: w.map tI).length (List.drop 0 (tI y :: w.map tI)) = tI y :: w.map tI := take_all.symm
              refine And.intro (lend3 (y :: w)) ?_
              refine And.intro (Nat.le_of_ble_eq_true rfl) (And.intro (Nat.le_of_ble_eq_true rfl) (And.intro (Nat.le_of_ble_eq_true rfl) ?_))
              refine Exists.intro (x1 :: r1, [⟨y :: w, c⟩]) (And.intro hless (And.intro ⟨hR2, fun LL hLL => ?_, ?_⟩ ?_))
              · have := hrun _ (.step (x0 :: r0) b LL hb h3 (by rw [← hAc', ← hc, hr1]; exact hLL))
                rw [← hAc', ← hc] at this
                simpa using this
              · have hh : ([] : List CutD).length + _ ≤ 1000 := hcnt
                simp at hh hless ⊢
                omega
              · simp only [List.map_cons, e3]
                exact And.intro rfl rfl
      | cons z q =>
        refine SpecP.mono (f58_spec t n1 s 65 56 (cntZ (x0 :: r0)) ht hs _ fun fr a x ha _ => f65_spec a x (x0 :: r0) _ (by rw [hbig]; exact ha) (List.length_map ..).symm fr _ out rfl rfl) ?_
        rintro _ _ ⟨b, hb, rfl, rfl⟩
        refine And.intro trivial (And.intro ⟨flat_bools, trivial⟩ ?_)
        refine Exists.intro (b.map tB) (And.intro (lend rfl) (And.intro (lend2 rfl) ?_))
        refine SpecP.mono (f57_spec false t.gn b t.goal (fun x hx => (TK.goal x hx).inB hN hb.len) _) ?_
        rintro _ _ ⟨rfl, rfl⟩
        refine And.intro trivial (And.intro trivial ?_)
        refine And.intro (fun h3 => ?_) fun h3 => ?_
        · refine Exists.intro [960] (.inr (.inr ⟨h0, hall, z :: q, ?_, rfl, rfl⟩))
          have := hrun [] (.stop _ b hb h3)
          simpa using this
        have hne := cut_some hR hb h3 hall
        refine LoopW.mk (Nat × List Int × Int) (fun p => p.1 ≤ t.acts.length ∧ p.2.1 = selI p.1 (hitA t (x0 :: r0) b) ∧ p.2.2 = costOf (x0 :: r0) p.2.1)
          (fun p => [(1, .ints n1 s), (2, .ptr (.cur 16) 0), (7, .ptr (.cur 56) 0), (10, accV 960 2 ((z :: q : List CutD).map tCut)), (11, .ptr (.cur 88) 0), (12, .ptr (.cur 96) 0), (53, .t (.sl t.an 4 (t.acts.map tAct))), (54, .int (t.acts.map tAct).length), (55, .int p.1)])
          (fun p => ⟨out, (16, .box (cellsTask t)) :: (56, .box [.osl (.cur 328) 1 0 ((x0 :: r0).map tI).length]) :: (328, .row 3 1 ((x0 :: r0).map tI)) :: (88, .box [.osl (.cur 369001291) 1 0 b.length]) :: (369001291, .row 4 1 (b.map tB)) :: (96, .box [accV 648 1 (p.2.1.map tI), .t (.v (.int .i64 p.2.2))]) :: (accO 648 3 1 (p.2.1.map tI) ++ accO 960 54 2 ((z :: q : List CutD).map tCut))⟩) (fun p => t.acts.length - p.1) (0, [], 0) ⟨Nat.zero_le _, rfl, rfl⟩ ⟨rfl, rfl⟩ ?_
        rintro ⟨i, A, c⟩ ⟨hi0, hAc, hc⟩
        simp only at hi0 hAc hc
        cases A with
        | nil =>
          refine And.intro (fun h4 => ?_) fun h4 => ?_
          · have hi : i < t.acts.length := lt_of_dec h4
            have hax : t.acts[i]? = some t.acts[i] := List.getElem?_eq_getElem hi
            have hmem : t.acts[i] ∈ t.acts := List.getElem_mem hi
            have hir : i < (x0 :: r0).length := by rw [hbig]; exact hi
            have hil : (i : Int) < ((x0 :: r0).map tI).length := by simp at hir ⊢; omega
            have hE := TK.effs _ hmem
            have hst := selI_step i (hitA t (x0 :: r0) b)
            have miss : hitA t (x0 :: r0) b i = false → selI (i + 1) (hitA t (x0 :: r0) b) = [] := fun h => by rw [hst, ← hAc, h]; simp
            have hit : hitA t (x0 :: r0) b i = true → selI (i + 1) (hitA t (x0 :: r0) b) = ([]) ++ [(i : Int)] := fun h => by rw [hst, ← hAc, h]; rfl
            refine And.intro (by omega) (Exists.intro _ (And.intro (get_map hi) ?_))
            refine And.intro (by omega) (And.intro hil (Exists.intro _ (And.intro (getI hir) ?_)))
            refine And.intro (fun h5 => ?_) fun h5 => ?_
            rotate_left
            · refine And.intro (by omega) (And.intro (by omega) ?_)
              exact Exists.intro (i + 1, [], c) (And.intro (by show t.acts.length - (i + 1) < t.acts.length - i; omega) (And.intro ⟨hi, (miss (by rw [hitA, h5]; rfl)).symm, hc⟩ (And.intro rfl rfl)))
            refine Exists.intro (b.map tB) (And.intro (lend rfl) (And.intro (lend2 rfl) ?_))
            refine SpecP.mono (f57_spec false t.acts[i].pn b t.acts[i].pre (fun x hx => (TK.pre _ hmem x hx).inB hN hb.len) _) ?_
            rintro _ _ ⟨rfl, rfl⟩
            refine And.intro trivial (And.intro trivial ?_)
            refine And.intro (fun h6 => ?_) fun h6 => ?_
            rotate_left
            · refine And.intro (by omega) (And.intro (by omega) ?_)
              exact Exists.intro (i + 1, [], c) (And.intro (by show t.acts.length - (i + 1) < t.acts.length - i; omega) (And.intro ⟨hi, (miss (by rw [hitA, hax, h5]; simp only [h6]; rfl)).symm, hc⟩ (And.intro rfl rfl)))
            refine SpecP.mono (f66_spec t.acts[i].en t.acts[i].effs 67 0 88 (hitE b) _ (fun x hx => f67_spec x b b.length rfl ((TK.lit _ hmem x hx).inB hN hb.len) (fun l hl => (TK.whn _ hmem x hx l hl).inB hN hb.len) [] [] _ out rfl rfl)) ?_
            rintro _ _ ⟨rfl, rfl⟩
            refine And.intro trivial (And.intro trivial ?_)
            refine And.intro (fun h7 => ?_) fun h7 => ?_
            rotate_left
            · refine And.intro (by omega) (And.intro (by omega) ?_)
              exact Exists.intro (i + 1, [], c) (And.intro (by show t.acts.length - (i + 1) < t.acts.length - i; omega) (And.intro ⟨hi, (miss (by rw [hitA, hax, h5]; simp only [h6, h7]; rfl)).symm, hc⟩ (And.intro rfl rfl)))
            have hyes : hitA t (x0 :: r0) b i = true := by rw [hitA, hax, h5]; simp only [h6, h7]; rfl
            have hcs : costOf (x0 :: r0) (([]) ++ [(i : Int)]) = costStep (x0 :: r0) c i := by rw [costOf_snoc, hc]
            refine And.intro (Nat.le_of_ble_eq_true rfl) (And.intro (Nat.le_of_ble_eq_true rfl) (And.intro (Nat.le_of_ble_eq_true rfl) ?_))
            refine And.intro (fun h8 => ?_) fun h8 => ?_
            · refine And.intro (by omega) (And.intro hil (Exists.intro _ (And.intro (getI hir) ?_)))
              refine And.intro (by omega) (And.intro (by omega) ?_)
              refine Exists.intro (i + 1, [(i : Int)], (x0 :: r0).getD i 0) (And.intro (by show t.acts.length - (i + 1) < t.acts.length - i; omega) (And.intro ⟨hi, (hit hyes).symm, ?_⟩ ?_))
              · show (x0 :: r0).getD i 0 = costOf (x0 :: r0) (([]) ++ [(i : Int)])
                rw [hcs, costStep, h8, Int.toNat_natCast]
                rfl
              · exact And.intro rfl rfl
            · refine And.intro (by omega) (And.intro hil (Exists.intro _ (And.intro (getI hir) ?_)))
              refine And.intro (fun h9 => ?_) fun h9 => ?_
              · refine And.intro (by omega) (And.intro hil (Exists.intro _ (And.intro (getI hir) ?_)))
                refine And.intro (by omega) (And.intro (by omega) ?_)
                refine Exists.intro (i + 1, [(i : Int)], (x0 :: r0).getD i 0) (And.intro (by show t.acts.length - (i + 1) < t.acts.length - i; omega) (And.intro ⟨hi, (hit hyes).symm, ?_⟩ ?_))
                · show (x0 :: r0).getD i 0 = costOf (x0 :: r0) (([]) ++ [(i : Int)])
                  rw [hcs, costStep, h8, Int.toNat_natCast, h9]
                  rfl
                · exact And.intro rfl rfl
              · refine And.intro (by omega) (And.intro (by omega) ?_)
                refine Exists.intro (i + 1, [(i : Int)], c) (And.intro (by show t.acts.length - (i + 1) < t.acts.length - i; omega) (And.intro ⟨hi, (hit hyes).symm, ?_⟩ ?_))
                · show c = costOf (x0 :: r0) (([]) ++ [(i : Int)])
                  rw [hcs, costStep, h8, Int.toNat_natCast, h9]
                  rfl
                · exact And.intro rfl rfl
          · have hi : i = t.acts.length := by have := ge_of_dec h4; omega
            rw [hi] at hAc
            exact absurd hAc.symm hne
        | cons y w =>
          refine And.intro (fun h4 => ?_) fun h4 => ?_
          · have hi : i < t.acts.length := lt_of_dec h4
            have hax : t.acts[i]? = some t.acts[i] := List.getElem?_eq_getElem hi
            have hmem : t.acts[i] ∈ t.acts := List.getElem_mem hi
            have hir : i < (x0 :: r0).length := by rw [hbig]; exact hi
            have hil : (i : Int) < ((x0 :: r0).map tI).length := by simp at hir ⊢; omega
            have hE := TK.effs _ hmem
            have hst := selI_step i (hitA t (x0 :: r0) b)
            have miss : hitA t (x0 :: r0) b i = false → selI (i + 1) (hitA t (x0 :: r0) b) = y :: w := fun h => by rw [hst, ← hAc, h]; simp
            have hit : hitA t (x0 :: r0) b i = true → selI (i + 1) (hitA t (x0 :: r0) b) = (y :: w) ++ [(i : Int)] := fun h => by rw [hst, ← hAc, h]; rfl
            refine And.intro (by omega) (Exists.intro _ (And.intro (get_map hi) ?_))
            refine And.intro (by omega) (And.intro hil (Exists.intro _ (And.intro (getI hir) ?_)))
            refine And.intro (fun h5 => ?_) fun h5 => ?_
            rotate_left
            · refine And.intro (by omega) (And.intro (by omega) ?_)
              exact Exists.intro (i + 1, y :: w, c) (And.intro (by show t.acts.length - (i + 1) < t.acts.length - i; omega) (And.intro ⟨hi, (miss (by rw [hitA, h5]; rfl)).symm, hc⟩ (And.intro rfl rfl)))
            refine Exists.intro (b.map tB) (And.intro (lend rfl) (And.intro (lend2 rfl) ?_))
            refine SpecP.mono (f57_spec false t.acts[i].pn b t.acts[i].pre (fun x hx => (TK.pre _ hmem x hx).inB hN hb.len) _) ?_
            rintro _ _ ⟨rfl, rfl⟩
            refine And.intro trivial (And.intro trivial ?_)
            refine And.intro (fun h6 => ?_) fun h6 => ?_
            rotate_left
            · refine And.intro (by omega) (And.intro (by omega) ?_)
              exact Exists.intro (i + 1, y :: w, c) (And.intro (by show t.acts.length - (i + 1) < t.acts.length - i; omega) (And.intro ⟨hi, (miss (by rw [hitA, hax, h5]; simp only [h6]; rfl)).symm, hc⟩ (And.intro rfl rfl)))
            refine SpecP.mono (f66_spec t.acts[i].en t.acts[i].effs 67 0 88 (hitE b) _ (fun x hx => f67_spec x b b.length rfl ((TK.lit _ hmem x hx).inB hN hb.len) (fun l hl => (TK.whn _ hmem x hx l hl).inB hN hb.len) [] [] _ out rfl rfl)) ?_
            rintro _ _ ⟨rfl, rfl⟩
            refine And.intro trivial (And.intro trivial ?_)
            refine And.intro (fun h7 => ?_) fun h7 => ?_
            rotate_left
            · refine And.intro (by omega) (And.intro (by omega) ?_)
              exact Exists.intro (i + 1, y :: w, c) (And.intro (by show t.acts.length - (i + 1) < t.acts.length - i; omega) (And.intro ⟨hi, (miss (by rw [hitA, hax, h5]; simp only [h6, h7]; rfl)).symm, hc⟩ (And.intro rfl rfl)))
            have hyes : hitA t (x0 :: r0) b i = true := by rw [hitA, hax, h5]; simp only [h6, h7]; rfl
            have hcs : costOf (x0 :: r0) ((y :: w) ++ [(i : Int)]) = costStep (x0 :: r0) c i := by rw [costOf_snoc, hc]
            have hln : (y :: w).length ≤ i := by rw [hAc]; exact selI_len i _
            have hln2 : ((tI y :: w.map tI) ++ [tI i]).length ≤ i + 1 := by simp at hln ⊢; omega
            have e : (w ++ [(i : Int)]).map tI = w.map tI ++ [tI i] := by simp
            refine And.intro (Nat.le_of_ble_eq_true rfl) (And.intro rfl (And.intro (by show ((tI y :: w.map tI) ++ [tI i]).length * 8 ≤ _; omega) (And.intro (by show ((tI y :: w.map tI) ++ [tI i]).length ≤ _; omega) ?_)))
            refine And.intro (fun h8 => ?_) fun h8 => ?_
            · refine And.intro (by omega) (And.intro hil (Exists.intro _ (And.intro (getI hir) ?_)))
              refine And.intro (by omega) (And.intro (by omega) ?_)
              refine Exists.intro (i + 1, y :: (w ++ [(i : Int)]), (x0 :: r0).getD i 0) (And.intro (by show t.acts.length - (i + 1) < t.acts.length - i; omega) (And.intro ⟨hi, (hit hyes).symm, ?_⟩ ?_))
              · show (x0 :: r0).getD i 0 = costOf (x0 :: r0) ((y :: w) ++ [(i : Int)])
                rw [hcs, costStep, h8, Int.toNat_natCast]
                rfl
              · simp only [List.map_cons, e]
                exact And.intro rfl rfl
            · refine And.intro (by omega) (And.intro hil (Exists.intro _ (And.intro (getI hir) ?_)))
              refine And.intro (fun h9 => ?_) fun h9 => ?_
              · refine And.intro (by omega) (And.intro hil (Exists.intro _ (And.intro (getI hir) ?_)))
                refine And.intro (by omega) (And.intro (by omega) ?_)
                refine Exists.intro (i + 1, y :: (w ++ [(i : Int)]), (x0 :: r0).getD i 0) (And.intro (by show t.acts.length - (i + 1) < t.acts.length - i; omega) (And.intro ⟨hi, (hit hyes).symm, ?_⟩ ?_))
                · show (x0 :: r0).getD i 0 = costOf (x0 :: r0) ((y :: w) ++ [(i : Int)])
                  rw [hcs, costStep, h8, Int.toNat_natCast, h9]
                  rfl
                · simp only [List.map_cons, e]
                  exact And.intro rfl rfl
              · refine And.intro (by omega) (And.intro (by omega) ?_)
                refine Exists.intro (i + 1, y :: (w ++ [(i : Int)]), c) (And.intro (by show t.acts.length - (i + 1) < t.acts.length - i; omega) (And.intro ⟨hi, (hit hyes).symm, ?_⟩ ?_))
                · show c = costOf (x0 :: r0) ((y :: w) ++ [(i : Int)])
                  rw [hcs, costStep, h8, Int.toNat_natCast, h9]
                  rfl
                · simp only [List.map_cons, e]
                  exact And.intro rfl rfl
          · have hi : i = t.acts.length := by have := ge_of_dec h4; omega
            rw [hi] at hAc
            have hAc' : y :: w = cutActs t (x0 :: r0) b := hAc
            have hnx := cut_next hR hne
            rw [← hAc', ← hc] at hnx
            obtain ⟨hR2, hless, hc0, hc1⟩ := hnx
            have hyl : (y :: w).length ≤ 1000 := by rw [hAc]; exact Nat.le_trans (selI_len _ _) hA
            refine LoopW.mk Nat (fun j => j ≤ (y :: w).length) (fun j => [(1, .ints n1 s), (2, .ptr (.cur 16) 0), (7, .ptr (.cur 56) 0), (10, accV 960 2 ((z :: q : List CutD).map tCut)), (12, .ptr (.cur 96) 0), (102, .osl (.cur 648) 1 0 ((y :: w).map tI).length), (103, .int ((y :: w).map tI).length), (104, .int j)])
              (fun j => ⟨out, (16, .box (cellsTask t)) :: (56, .box [.osl (.cur 328) 1 0 ((x0 :: r0).map tI).length]) :: (328, .row 3 1 ((restOf (x0 :: r0) c ((y :: w).take j)).map tI)) :: (96, .box [.osl (.cur 648) 1 0 ((y :: w).map tI).length, .t (.v (.int .i64 c))]) :: (648, .row 3 1 ((y :: w).map tI)) :: accO 960 54 2 ((z :: q : List CutD).map tCut)⟩) (fun j => (y :: w).length - j) 0 (Nat.zero_le _) ⟨rfl, rfl⟩ fun j hj0 => ?_
            refine And.intro (fun k1 => ?_) fun k1 => ?_
            · have hj : j < (y :: w).length := by have := of_decide_eq_true k1; simp at this ⊢; omega
              have hjl : (j : Int) < ((y :: w).map tI).length := by simp at hj ⊢; omega
              have hmem : (y :: w)[j] ∈ y :: w := List.getElem_mem hj
              obtain ⟨k, hk1, hk2, _⟩ := selI_mem ((show ∀ z ∈ y :: w, z ∈ selI t.acts.length (hitA t (x0 :: r0) b) from by rw [hAc]; exact fun _ h => h) _ hmem)
              have hgd : (y :: w).getD j 0 = (k : Int) := by rw [List.getD_eq_getElem?_getD, List.getElem?_eq_getElem hj]; exact hk1
              have hrl : (restOf (x0 :: r0) c ((y :: w).take j)).length = (x0 :: r0).length := restOf_length ..
              have hkl : k < (restOf (x0 :: r0) c ((y :: w).take j)).length := by rw [hrl, hbig]; exact hk2
              have hkl2 : (k : Int) < ((x0 :: r0).map tI).length := by rw [List.length_map, hbig]; omega
              have hbd : -(100000000 : Int) ≤ (restOf (x0 :: r0) c ((y :: w).take j)).getD k 0 ∧ (restOf (x0 :: r0) c ((y :: w).take j)).getD k 0 ≤ 100000 := by
                have := restOf_bound hc0 hc1 hR.2 ((y :: w).take j) _ (List.getElem_mem hkl)
                rw [List.getD_eq_getElem?_getD, List.getElem?_eq_getElem hkl]
                have hl : ((y :: w).take j).length ≤ 1000 := by rw [List.length_take]; omega
                simp only [Option.getD_some]; omega
              refine And.intro (by omega) (And.intro hjl (Exists.intro (tI k) (And.intro (by rw [← hgd]; exact getI hj) ?_)))
              refine And.intro (by omega) (And.intro hkl2 (Exists.intro _ (And.intro (getI hkl) ?_)))
              refine And.intro (by omega) (And.intro (by omega) ?_)
              refine And.intro (by omega) (And.intro hkl2 (Exists.intro _ (And.intro (getI hkl) (And.intro (Nat.le_refl 1) ?_))))
              refine And.intro (by omega) (And.intro (by omega) ?_)
              refine Exists.intro (j + 1) (And.intro (by show (y :: w).length - (j + 1) < (y :: w).length - j; omega) (And.intro hj (And.intro rfl ?_)))
              have e : ((restOf (x0 :: r0) c ((y :: w).take j)).map tI).set (0 + ((k : Int)).toNat) (tI ((restOf (x0 :: r0) c ((y :: w).take j)).getD k 0 - c)) = (restOf (x0 :: r0) c ((y :: w).take (j + 1))).map tI := by
                rw [Nat.zero_add, map_setI, List.take_add_one, List.getElem?_eq_getElem hj, Option.toList_some, restOf_snoc, restStep, hk1]; rfl
              rw [← e]; rfl
            · have hj : j = (y :: w).length := by have h := of_decide_eq_false k1; have h' : j ≤ (y :: w).length := hj0; simp at h h' ⊢; omega
              subst hj
              have hl1 : (restOf (x0 :: r0) c (y :: w)).length = (x0 :: r0).length := restOf_length ..
              obtain ⟨x1, r1, hr1⟩ : ∃ x1 r1, restOf (x0 :: r0) c (y :: w) = x1 :: r1 := by
                cases hh : restOf (x0 :: r0) c (y :: w) with
                | nil => rw [hh] at hl1; simp at hl1
                | cons x1 r1 => exact ⟨x1, r1, rfl⟩
              have hlen : ((x0 :: r0).map tI).length = ((x1 :: r1).map tI).length := by rw [hr1] at hl1; rw [List.length_map, List.length_map, hl1]
              rw [List.take_length, hr1, hlen]
              rw [hr1] at hR2 hless
              have e3 : List.take (tI y :: w.map tI).length (List.drop 0 (tI y :: w.map tI)) = tI y :: w.map tI := take_all.symm
              have hq : (z :: q).length ≤ 1000 := by omega
              have e4 : (q ++ [(⟨y :: w, c⟩ : CutD)]).map tCut = q.map tCut ++ [tCut ⟨y :: w, c⟩] := by simp
              have hql : ∀ u : List T, ((tCut z :: q.map tCut) ++ [u]).length ≤ 1001 := fun u => by simp at hq ⊢; omega
              refine And.intro (lend3 (y :: w)) ?_
              refine And.intro (Nat.le_of_ble_eq_true rfl) (And.intro rfl (And.intro (Nat.le_trans (Nat.mul_le_mul_right _ (hql _)) (by show 1001 * 32 ≤ _; omega)) (And.intro (Nat.le_trans (hql _) (by omega)) ?_)))
              refine Exists.intro (x1 :: r1, z :: (q ++ [⟨y :: w, c⟩])) (And.intro hless (And.intro ⟨hR2, fun LL hLL => ?_, ?_⟩ ?_))
              · have := hrun _ (.step (x0 :: r0) b LL hb h3 (by rw [← hAc', ← hc, hr1]; exact hLL))
                rw [← hAc', ← hc] at this
                simpa using this
              · have hh : (z :: q : List CutD).length + _ ≤ 1000 := hcnt
                simp at hh hless ⊢
                omega
              · simp only [List.map_cons, e4, e3]
                exact And.intro rfl rfl

end Go.Fw

/- What the program's functions do, part 25: the example. -/
namespace Go.Fw
open Go Go.Proofs
set_option maxRecDepth 10000

def sHere : ByteArray := ⟨#[104, 101, 114, 101]⟩
def sThere : ByteArray := ⟨#[116, 104, 101, 114, 101]⟩
def sGo : ByteArray := ⟨#[103, 111]⟩
def exAct : Actn := ⟨sGo, 2, false, [⟨0, false⟩], false, [⟨true, [], ⟨0, true⟩⟩, ⟨true, [], ⟨1, false⟩⟩]⟩
def exTask : Task := ⟨false, [sHere, sThere], false, [0], false, [⟨1, false⟩], false, [exAct]⟩
/-- The action, as the program builds it. -/
def exActT : List T := [.v (.string sGo), .v (.int .i64 2), .sl false 2 [tLit ⟨0, false⟩], .sl false 3 [[.sl true 0 [], .v (.int .i64 0), .v (.bool true)], [.sl true 0 [], .v (.int .i64 1), .v (.bool false)]]]

theorem f53_spec (out : List Fr) : SpecP Try.prog 53 [] out fun r ro => r = .agg [.osl (.cur 80) 1 0 2, .osl (.cur 88) 1 0 1, .osl (.cur 104) 2 0 1, .osl (.cur 120) 4 0 1] ∧
    ro = [(80, .row 9 1 [tS sHere, tS sThere]), (88, .row 3 1 [tI 0]), (104, .row 50 2 [tLit ⟨1, false⟩]), (120, .row 79 4 [exActT])] := by
  refine spec_body cx_ok [] [] (fn := Try.f53) (by kernel_rfl) rfl (by kernel_rfl) rfl (by unfold FnOK; kernel_rfl) fun hok => ?_
  refine And.intro (Nat.le_of_ble_eq_true rfl) (And.intro (Nat.le_of_ble_eq_true rfl) ?_)
  exact Exists.intro [80, 88, 104, 120] (And.intro rfl rfl)
end Go.Fw

/- What the program's functions do, part 26: the example comes out right. -/
namespace Go.Fw
open Go Go.Proofs
set_option maxRecDepth 10000

/-! ### Nil slices deep in closed data -/
def T.un : T → T
  | .v x => .v x
  | .sl true _ [] => .sl true 0 []
  | .sl n sz es => .sl n sz (unEs es)
where
  unEs : List (List T) → List (List T)
    | [] => []
    | el :: r => unEl el :: unEs r
  unEl : List T → List T
    | [] => []
    | x :: r => T.un x :: unEl r
theorem unEl_get : ∀ {el el' : List T}, T.un.unEl el' = T.un.unEl el → el'.length = el.length ∧ ∀ (j : Nat) (x' : T), el'[j]? = some x' → ∃ x, el[j]? = some x ∧ x'.un = x.un
  | [], [], _ => ⟨rfl, fun j x h => by simp at h⟩
  | [], _ :: _, h => by simp [T.un.unEl] at h
  | _ :: _, [], h => by simp [T.un.unEl] at h
  | x :: r, x' :: r', h => by
    simp only [T.un.unEl, List.cons.injEq] at h
    obtain ⟨h1, h2⟩ := unEl_get h.2
    refine ⟨by simp [h1], fun j y hy => ?_⟩
    cases j with
    | zero => simp at hy; subst hy; exact ⟨x, rfl, h.1⟩
    | succ j => simpa using h2 j y (by simpa using hy)
theorem unEs_get : ∀ {es es' : List (List T)}, T.un.unEs es' = T.un.unEs es → es'.length = es.length ∧ ∀ (i : Nat) (e' : List T), es'[i]? = some e' → ∃ e, es[i]? = some e ∧ T.un.unEl e' = T.un.unEl e
  | [], [], _ => ⟨rfl, fun j x h => by simp at h⟩
  | [], _ :: _, h => by simp [T.un.unEs] at h
  | _ :: _, [], h => by simp [T.un.unEs] at h
  | x :: r, x' :: r', h => by
    simp only [T.un.unEs, List.cons.injEq] at h
    obtain ⟨h1, h2⟩ := unEs_get h.2
    refine ⟨by simp [h1], fun j y hy => ?_⟩
    cases j with
    | zero => simp at hy; subst hy; exact ⟨x, rfl, h.1⟩
    | succ j => simpa using h2 j y (by simpa using hy)
theorem un_sl {sz : Nat} {es : List (List T)} : (T.sl false sz es).un = .sl false sz (T.un.unEs es) := by cases es <;> rfl
theorem un_inv {y : T} : ∀ {sz : Nat} {es : List (List T)}, y.un = .sl false sz (T.un.unEs es) → ∃ es', y = .sl false sz es' ∧ T.un.unEs es' = T.un.unEs es := by
  intro sz es h
  match y, h with
  | .v x, h => simp [T.un] at h
  | .sl true a [], h => simp [T.un] at h
  | .sl true a (b :: r), h => simp [T.un] at h
  | .sl false a es', h => rw [un_sl] at h; simp only [T.sl.injEq, true_and] at h; exact ⟨es', by rw [h.1], h.2⟩
theorem VT.un {RO : Nat → Prop} {w : World} {x : T} {v : Value} (h : VT RO w x v) : ∀ y : T, y.un = x.un → VT RO w y v := by
  induction h with
  | v x h =>
    intro y hy
    match y, hy with
    | .v z, hy => simp only [T.un, T.v.injEq] at hy; subst hy; exact .v _ h
    | .sl true a [], hy => simp [T.un] at hy
    | .sl true a (b :: r), hy => simp [T.un] at hy
    | .sl false a es, hy => rw [un_sl] at hy; simp [T.un] at hy
  | nil sz =>
    intro y hy
    match y, hy with
    | .v z, hy => simp [T.un] at hy
    | .sl true a [], hy => exact .nil a
    | .sl true a (b :: r), hy => simp [T.un, T.un.unEs] at hy
    | .sl false a es, hy => rw [un_sl] at hy; simp [T.un] at hy
  | emp sz a c hc =>
    intro y hy
    obtain ⟨es', rfl, h2⟩ := un_inv (y := y) (sz := sz) (es := []) (by rw [hy]; rfl)
    have := (unEs_get h2).1
    have : es' = [] := List.eq_nil_of_length_eq_zero (by simpa using this)
    subst this; exact .emp sz a c hc
  | sl sz es b off c u hb hc hm hsz hcell hv ih =>
    intro y hy
    rw [un_sl] at hy
    obtain ⟨es', rfl, h2⟩ := un_inv hy
    obtain ⟨hl, hg⟩ := unEs_get h2
    rw [← hl] at hc ⊢
    refine .sl sz es' b off c u hb hc hm (fun i e hi => ?_) (fun i e j x hi hj => ?_) fun i e j x hi hj => ?_
    · obtain ⟨e0, h3, h4⟩ := hg i e hi
      rw [(unEl_get h4).1]; exact hsz i e0 h3
    · obtain ⟨e0, h3, h4⟩ := hg i e hi
      obtain ⟨x0, h5, _⟩ := (unEl_get h4).2 j x hj
      exact hcell i e0 j x0 h3 h5
    · obtain ⟨e0, h3, h4⟩ := hg i e hi
      obtain ⟨x0, h5, h6⟩ := (unEl_get h4).2 j x hj
      exact ih i e0 j x0 h3 h5 x h6

/-- The task as the program builds it may stand for the task. -/
theorem ex_vals {rest : List LV} (β : K → Nat) (RO : Nat → Prop) (w : World) (vals : List Value)
    (h : Vals β RO w (.agg [.t (.sl false 1 [tS sHere, tS sThere]), .t (.sl false 1 [tI 0]), .t (.sl false 2 [tLit ⟨1, false⟩]), .t (.sl false 4 [exActT])] :: rest) vals) : Vals β RO w (.task exTask :: rest) vals := by
  refine ⟨h.1, fun i z v hz hv => ?_⟩
  cases i with
  | succ i => exact h.2 (i + 1) z v hz hv
  | zero =>
    simp only [List.getElem?_cons_zero, Option.some.injEq] at hz
    subst hz
    have h0 := h.2 0 _ v rfl hv
    cases h0 with
    | agg _ vs hl hc h1 =>
    refine .agg _ vs hl (fun i x u hx hu => ?_) h1
    match i with
    | 0 => simp at hx; subst hx; exact hc 0 _ u rfl hu
    | 1 => simp at hx; subst hx; exact hc 1 _ u rfl hu
    | 2 => simp at hx; subst hx; exact hc 2 _ u rfl hu
    | 3 =>
      simp at hx; subst hx
      have h3 := hc 3 _ u rfl hu
      cases h3 with
      | t _ _ h3 => exact .t _ _ (h3.un _ rfl)
    | i + 4 => simp at hx

/-! ### What comes out -/
theorem ex_ok : isB exTask = true := by decide
theorem ex_fine : fineI exTask [0] = 0 := by decide

theorem ex_no2 {cnt : Nat → Lit → Bool} (h : cnt 0 ⟨1, false⟩ = false) : ∀ k, Rch exTask [0] cnt k → k ≠ 2 := by
  intro k hk
  cases hk with
  | ini k hk hh =>
    intro he; subst he
    exact absurd hh (by decide)
  | eff a x e hx he hc _ _ =>
    intro h2
    match a, hx with
    | 0, hx =>
      have hx : x = exAct := by simpa [exTask] using hx.symm
      subst hx
      simp only [exAct, List.mem_cons, List.not_mem_nil, or_false] at he
      rcases he with rfl | rfl
      · simp [codeI] at h2
      · rw [h] at hc; cases hc
    | a + 1, hx => simp [exTask] at hx
theorem ex_yes2 {cnt : Nat → Lit → Bool} (h : cnt 0 ⟨1, false⟩ = true) : Rch exTask [0] cnt 2 :=
  .eff 0 exAct ⟨true, [], ⟨1, false⟩⟩ rfl (by simp [exAct]) h (fun l hl => by
    simp only [exAct, List.mem_cons, List.not_mem_nil, or_false] at hl
    subst hl
    exact .ini 0 (by decide) (by decide)) fun l hl => by cases hl
theorem ex_goal (cnt : Nat → Lit → Bool) : allR exTask [0] cnt exTask.goal = cnt 0 ⟨1, false⟩ := by
  cases h : cnt 0 ⟨1, false⟩ with
  | true =>
    rw [allR_iff]
    intro x hx
    simp only [exTask, List.mem_cons, List.not_mem_nil, or_false] at hx
    subst hx
    exact ex_yes2 h
  | false =>
    cases h2 : allR exTask [0] cnt exTask.goal with
    | false => rfl
    | true => exact absurd rfl (ex_no2 h 2 (allR_iff.1 h2 ⟨1, false⟩ (by simp [exTask])))
theorem ex_facts : (selI (2 * exTask.facts.length) (onlyL exTask [0])).map litI = [⟨0, false⟩, ⟨1, false⟩, ⟨1, true⟩] := by
  have h : ∀ k, onlyL exTask [0] k = (holdsB [0] [litI k] || !decide ((⟨1, false⟩ : Lit) ≠ litI k)) := fun k => by rw [onlyL, ex_goal]
  rw [selI_congr (q := fun k => holdsB [0] [litI k] || !decide ((⟨1, false⟩ : Lit) ≠ litI k)) fun k _ => h k]
  decide
theorem ex_acts : selI exTask.acts.length (onlyA exTask [0]) = [0] := by
  have h : ∀ k, onlyA exTask [0] k = !cntO [(k : Int)] 0 ⟨1, false⟩ := fun k => by rw [onlyA, ex_goal]
  rw [selI_congr (q := fun (k : Nat) => !cntO [(k : Int)] 0 ⟨1, false⟩) fun k _ => h k]
  decide
theorem ex_cuts {L : List CutD} (h : CutRun exTask [0] [2] L) : L = [⟨[0], 2⟩] := by
  cases h with
  | stop rest b hb hg =>
    rw [hb.all, ex_goal] at hg
    exact absurd hg (by decide)
  | step rest b L hb hg h =>
    have hb1 : bitAt b ⟨0, true⟩ = false := by
      cases h1 : bitAt b ⟨0, true⟩ with
      | false => rfl
      | true =>
        have h2 := (hb.iff 1).1 h1
        exfalso
        generalize hk : 1 = k at h2
        cases h2 with
        | ini k hk2 hh => subst hk; exact absurd hh (by decide)
        | eff a x e hx he hc _ _ =>
          match a, hx with
          | 0, hx => simp [cntZ] at hc
          | a + 1, hx => simp [exTask] at hx
    have hb0 : bitAt b ⟨0, false⟩ = true := (hb.iff 0).2 (.ini 0 (by decide) (by decide))
    have hb0' : b.getD 0 false = true := hb0
    have hb1' : b.getD 1 false = false := hb1
    have hhit : hitA exTask [2] b 0 = true := by
      simp [hitA, exTask, exAct, setHas, hitE, bitAt, codeI]
      simp only [List.getD_eq_getElem?_getD] at hb0' hb1'
      simp [hb0', hb1']
    have ha : cutActs exTask [2] b = [0] := by
      rw [cutActs, show exTask.acts.length = 0 + 1 from rfl, selI_step, hhit]; rfl
    rw [ha] at h ⊢
    have hc : costOf [2] [0] = 2 := by decide
    rw [hc] at h ⊢
    have hr : restOf [2] 2 [0] = [0] := by decide
    rw [hr] at h
    cases h with
    | stop => rfl
    | step rest b2 L2 hb2 hg2 h2 =>
      rw [hb2.all, ex_goal] at hg2
      exact absurd hg2 (by decide)

theorem f14_spec (out : List Fr) : SpecP Try.prog 14 [] out fun r ro => r = .bool true ∧ ro = [] := by
  refine spec_body cx_ok [] [] (fn := Try.f14) (by kernel_rfl) rfl (by kernel_rfl) rfl (by unfold FnOK; kernel_rfl) fun hok => ?_
  refine SpecP.mono (f53_spec []) ?_
  rintro _ _ ⟨rfl, rfl⟩
  refine Exists.intro [tS sHere, tS sThere] (And.intro rfl (And.intro (Nat.le_of_ble_eq_true rfl) ?_))
  refine Exists.intro [tI 0] (And.intro rfl (And.intro (Nat.le_of_ble_eq_true rfl) ?_))
  refine Exists.intro [tLit ⟨1, false⟩] (And.intro rfl (And.intro (Nat.le_of_ble_eq_true rfl) ?_))
  refine Exists.intro [exActT] (And.intro rfl (And.intro (Nat.le_of_ble_eq_true rfl) ?_))
  refine Exists.intro [tI 0] (And.intro rfl (And.intro (Nat.le_of_ble_eq_true rfl) ?_))
  refine SpecP.conv ex_vals (SpecP.mono (f15_spec exTask false [0] _) ?_)
  rintro _ _ (⟨h, _⟩ | ⟨_, h1, h2⟩)
  · exact absurd ex_fine h
  rw [ex_facts] at h1 h2
  subst h1 h2
  refine And.intro ⟨trivial, trivial, trivial⟩ (And.intro ⟨flat_lits (b := [⟨0, false⟩, ⟨1, false⟩, ⟨1, true⟩]), trivial⟩ ?_)
  refine Exists.intro [tS sHere, tS sThere] (And.intro rfl (And.intro (Nat.le_of_ble_eq_true rfl) ?_))
  refine Exists.intro [tI 0] (And.intro rfl (And.intro (Nat.le_of_ble_eq_true rfl) ?_))
  refine Exists.intro [tLit ⟨1, false⟩] (And.intro rfl (And.intro (Nat.le_of_ble_eq_true rfl) ?_))
  refine Exists.intro [exActT] (And.intro rfl (And.intro (Nat.le_of_ble_eq_true rfl) ?_))
  refine Exists.intro [tI 0] (And.intro rfl (And.intro (Nat.le_of_ble_eq_true rfl) ?_))
  refine SpecP.conv ex_vals (SpecP.mono (f16_spec exTask false [0] _) ?_)
  rintro _ _ (⟨h, _⟩ | ⟨_, h1, h2⟩)
  · exact absurd ex_fine h
  rw [ex_acts] at h1 h2
  subst h1 h2
  refine And.intro ⟨trivial, trivial, trivial⟩ (And.intro ⟨flat_ints (b := [0]), trivial⟩ ?_)
  refine And.intro (Nat.le_of_ble_eq_true rfl) (And.intro (Nat.le_of_ble_eq_true rfl) (And.intro (Nat.le_of_ble_eq_true rfl) (And.intro (Nat.le_of_ble_eq_true rfl) ?_)))
  refine Exists.intro [tI 0] (And.intro rfl (And.intro (Nat.le_of_ble_eq_true rfl) (Exists.intro [tI 0] (And.intro rfl (And.intro (Nat.le_of_ble_eq_true rfl) ?_)))))
  refine SpecP.conv ex_vals (SpecP.mono (f24_spec exTask false [0] _) ?_)
  rintro _ _ (⟨h, _⟩ | ⟨_, h, _⟩ | ⟨_, _, L, hL, rfl, rfl⟩)
  · exact absurd ex_fine h
  · rw [ex_goal] at h
    exact absurd h (by decide)
  have hL := ex_cuts hL
  subst hL
  refine And.intro (fun _ => ?_) fun h => absurd h (by decide)
  refine And.intro (fun _ => ?_) fun h => absurd h (by decide)
  refine And.intro (fun _ => ?_) fun h => absurd h (by decide)
  refine Exists.intro ([⟨0, false⟩, ⟨1, false⟩, ⟨1, true⟩].map tLit) (And.intro rfl (And.intro (Nat.le_of_ble_eq_true rfl) ?_))
  refine Exists.intro ([⟨0, false⟩, ⟨1, false⟩, ⟨1, true⟩].map tLit) (And.intro rfl (And.intro (Nat.le_of_ble_eq_true rfl) ?_))
  refine SpecP.mono (f18_spec false false [⟨0, false⟩, ⟨1, false⟩, ⟨1, true⟩] [⟨0, false⟩, ⟨1, false⟩, ⟨1, true⟩] _) ?_
  rintro _ _ ⟨rfl, rfl⟩
  refine And.intro trivial (And.intro trivial ?_)
  refine And.intro (fun _ => ?_) fun h => absurd h (by decide)
  refine Exists.intro [tI 0] (And.intro rfl (And.intro (Nat.le_of_ble_eq_true rfl) ?_))
  refine Exists.intro [tI 0] (And.intro rfl (And.intro (Nat.le_of_ble_eq_true rfl) ?_))
  refine SpecP.mono (f20_spec false false [0] [0] _) ?_
  rintro _ _ ⟨rfl, rfl⟩
  refine And.intro trivial (And.intro trivial ?_)
  refine And.intro (fun _ => ?_) fun h => absurd h (by decide)
  refine And.intro (fun _ => ?_) fun h => absurd h (by decide)
  refine And.intro (by decide) (And.intro (by decide) (Exists.intro _ (And.intro rfl ?_)))
  refine And.intro (fun _ => ?_) fun h => absurd h (by decide)
  refine And.intro (by decide) (And.intro (by decide) (Exists.intro _ (And.intro rfl ?_)))
  refine Exists.intro [tI 0] (And.intro rfl (And.intro (Nat.le_of_ble_eq_true rfl) ?_))
  refine SpecP.mono (f20_spec false false [0] [0] _) ?_
  rintro _ _ ⟨rfl, rfl⟩
  refine And.intro trivial (And.intro trivial ?_)
  refine And.intro (fun _ => ?_) fun h => absurd h (by decide)
  exact Exists.intro [] (And.intro rfl rfl)

end Go.Fw

/- What the law MarkLists does: it answers true. -/
namespace Go.Fw
open Go Go.Proofs
set_option maxRecDepth 10000

theorem conv_nil2 {a b : Nat} : ∀ (β : K → Nat) (RO : Nat → Prop) (w : World) (vals : List Value), Vals β RO w [.t (.sl true a []), .t (.sl true a [])] vals → Vals β RO w [.t (.sl true b []), .t (.sl true b [])] vals := fun β RO w vals hv =>
  ⟨hv.1, fun i z v hz hvz => by
    match i with
    | 0 => simp at hz; subst hz; exact nil_sz β RO w v (hv.2 0 _ v rfl hvz)
    | 1 => simp at hz; subst hz; exact nil_sz β RO w v (hv.2 1 _ v rfl hvz)
    | i + 2 => simp at hz⟩

theorem f3_spec (t : Task) (n1 : Bool) (s : List Int) (out : List Fr) : SpecP Try.prog 3 [.task t, .ints n1 s] out fun r ro => r = .bool true ∧ ro = [] := by
  refine spec_body cx_ok [] [] (fn := Try.f3) (by kernel_rfl) rfl (by kernel_rfl) rfl (by unfold FnOK; kernel_rfl) fun hok => ?_
  refine SpecP.mono (f13_spec t 200 []) ?_
  rintro _ _ ⟨few, rfl, rfl⟩
  refine And.intro (fun h1 => ?_) fun h1 => ?_
  rotate_left
  · refine SpecP.mono (f14_spec []) ?_
    rintro _ _ ⟨rfl, rfl⟩
    refine And.intro (fun _ => ?_) fun h => Bool.noConfusion h
    exact Exists.intro [] (ret_bool rfl rfl)
  refine And.intro (fun h2 => ?_) fun h2 => ?_
  · refine SpecP.mono (f14_spec []) ?_
    rintro _ _ ⟨rfl, rfl⟩
    refine And.intro (fun _ => ?_) fun h => Bool.noConfusion h
    exact Exists.intro [] (ret_bool rfl rfl)
  refine SpecP.mono (f15_spec t n1 s []) ?_
  rintro _ _ (⟨h0, rfl, rfl⟩ | ⟨h0, e1, e2⟩)
  · refine SpecP.mono (f16_spec t n1 s []) ?_
    rintro _ _ (⟨_, rfl, rfl⟩ | ⟨h, _⟩)
    rotate_left
    · exact absurd h h0
    refine SpecP.mono (f17_spec t n1 s []) ?_
    rintro _ _ ⟨rfl, rfl⟩
    refine And.intro (fun h3 => ?_) fun h3 => ?_
    rotate_left
    · exact absurd (by simpa using h3) h0
    refine And.intro (fun h4 => ?_) fun h4 => ?_
    rotate_left
    · simp at h4
    refine And.intro (fun h5 => ?_) fun h5 => ?_
    rotate_left
    · simp at h5
    refine And.intro (by decide) (And.intro (by decide) ?_)
    refine And.intro (fun _ => ?_) fun h => absurd h (by decide)
    refine SpecP.mono (f14_spec []) ?_
    rintro _ _ ⟨rfl, rfl⟩
    refine And.intro (fun _ => ?_) fun h => Bool.noConfusion h
    exact Exists.intro [] (ret_bool rfl rfl)
  obtain ⟨ht, hs⟩ := hts_of h0
  have m1 := f19_spec t n1 s ht hs
  have m2 := f21_spec t n1 s ht hs
  have m3 := f16_spec t n1 s []
  generalize (selI (2 * t.facts.length) (onlyL t s)).map litI = F at e1 e2 m1
  generalize selI t.acts.length (onlyA t s) = A at m2 m3
  subst e1 e2
  cases F
  all_goals
    refine SpecP.mono m3 ?_
    rintro _ _ (⟨h, _⟩ | ⟨_, e1, e2⟩)
    · exact absurd h0 h
    subst e1 e2
    cases A
    all_goals
      refine SpecP.mono (f17_spec t n1 s []) ?_
      rintro _ _ ⟨rfl, rfl⟩
      refine And.intro (fun h3 => ?_) fun h3 => ?_
      · exact absurd h0 (by simpa using h3)
      refine And.intro (fun _ => ?_) fun h => absurd h (by decide)
      refine And.intro (fun _ => ?_) fun h => absurd h (by decide)
      refine SpecP.mono (m1 []) ?_
      rintro _ _ ⟨rfl, rfl⟩
      first
        | refine SpecP.conv (conv_nil2 (b := 2)) (SpecP.mono (f18_spec true true [] [] []) ?_)
          rintro _ _ ⟨rfl, rfl⟩
        | refine Exists.intro _ (And.intro take_all (And.intro (by simp) ?_))
          refine Exists.intro _ (And.intro take_all (And.intro (by simp) ?_))
          refine SpecP.mono (f18_spec false false (_ :: _) (_ :: _) _) ?_
          rintro _ _ ⟨rfl, rfl⟩
          refine And.intro trivial (And.intro trivial ?_)
      refine And.intro (fun _ => ?_) fun h => absurd h (by simp)
      refine SpecP.mono (m2 []) ?_
      rintro _ _ ⟨rfl, rfl⟩
      first
        | refine SpecP.conv (conv_nil2 (b := 1)) (SpecP.mono (f20_spec true true [] [] []) ?_)
          rintro _ _ ⟨rfl, rfl⟩
        | refine Exists.intro _ (And.intro take_all (And.intro (by simp) ?_))
          refine Exists.intro _ (And.intro take_all (And.intro (by simp) ?_))
          refine SpecP.mono (f20_spec false false (_ :: _) (_ :: _) _) ?_
          rintro _ _ ⟨rfl, rfl⟩
          refine And.intro trivial (And.intro trivial ?_)
      refine And.intro (fun _ => ?_) fun h => absurd h (by simp)
      refine SpecP.mono (f14_spec []) ?_
      rintro _ _ ⟨rfl, rfl⟩
      refine And.intro (fun _ => ?_) fun h => Bool.noConfusion h
      exact Exists.intro [] (ret_bool rfl rfl)

end Go.Fw

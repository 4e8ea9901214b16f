/- The law RelaxLaws. -/
import Derived.Test.YtjmekjoomdblfaaGreatZO

/- The law RelaxLaws. -/
namespace Go.Fw
open Go Go.Proofs Heap
set_option maxRecDepth 10000

theorem f14c_spec (t : Task) (n1 n2 : Bool) (s : List Int) (l : List Lit) (hll : l.length ≤ 1000000000) (out : List Fr) : SpecP Tryz.prog 9 [.task t, .ints n1 s, .lits n2 l] out fun r ro =>
    ((askI t s l ≠ 0 ∧ r = .tup [.ints true [], .bool false, .int (askI t s l)]) ∨ (askI t s l = 0 ∧ ∃ d, EstOK t s false d ∧
      ((gotB d.v l = false ∧ r = .tup [.ints true [], .bool false, .int 0]) ∨ (gotB d.v l = true ∧ ∃ p, PlanOK t s d l p ∧ r = .tup [.ints p.isEmpty p, .bool true, .int 0])))) ∧ ro = [] :=
  (f14_spec t n1 n2 s l hll out).close fun r ro h => by
    rcases h with ⟨h0, rfl, rfl⟩ | ⟨h0, d, hd, ⟨h1, rfl, rfl⟩ | ⟨h1, p, hp, rfl, h2⟩⟩
    · exact ⟨_, .triple _ _ _ _ _ _ (.nil 0 1) (.same _) (.same _), .inl ⟨h0, rfl⟩, rfl⟩
    · exact ⟨_, .triple _ _ _ _ _ _ (.nil 0 1) (.same _) (.same _), .inr ⟨h0, d, hd, .inl ⟨h1, rfl⟩⟩, rfl⟩
    · refine ⟨_, .triple _ _ _ _ _ _ ?_ (.same _) (.same _), .inr ⟨h0, d, hd, .inr ⟨h1, p, hp, rfl⟩⟩, rfl⟩
      have := acc_cls (s := 744) (e := 3) (sz := 1) (es := p.map tI) (ro := ro) fun x r he => by rw [h2, he]; exact look_cons .. |>.trans (if_pos rfl)
      rw [show p.isEmpty = (p.map tI).isEmpty by cases p <;> rfl]
      exact this

/-! ### The additive estimate is not below -/
theorem comb_le_add {e : List Int} (he : ∀ k, ev e k ≤ farI) : ∀ L : List Nat, comb false e L ≤ comb true e L
  | [] => Int.le_refl _
  | x :: r => by
    have h1 := comb_le_add he r
    have h2 := comb_nonneg false e r
    have h3 := comb_le_far (add := true) he r
    have h4 := he x
    have h5 := pos_nonneg (ev e x)
    have h6 : pos (ev e x) ≤ farI := by unfold pos; split <;> (unfold farI at *; omega)
    show (if (false = true) then _ else max (pos (ev e x)) (comb false e r)) ≤ (if (true = true) then min farI (pos (ev e x) + comb true e r) else _)
    rw [if_neg (by decide), if_pos rfl]
    omega
theorem est_le {P : EP} {e e' : List Int} (he : IsE P false e) (hf : ∀ k, ev e k ≤ farI) (he' : IsE P true e') (k : Nat) (hk : 0 ≤ ev e' k) : 0 ≤ ev e k ∧ ev e k ≤ ev e' k :=
  he'.jus k hk e ⟨he.pf.ini, fun r hr hg => by
    obtain ⟨p1, p2⟩ := he.pf.rul r hr hg
    refine ⟨p1, Int.le_trans p2 ?_⟩
    have := comb_le_add hf r.frm
    unfold rval; omega⟩
theorem max_add {P : EP} {e e' : List Int} (he : IsE P false e) (hf : ∀ k, ev e k ≤ farI) (he' : IsE P true e') (hf' : ∀ k, ev e' k ≤ farI) {l : List Lit} (hg : gotB e' l = true) : maxV e l ≤ addV e' l := by
  refine (max_le (comb_nonneg ..) fun x hx => ?_).2
  have h0 : 0 ≤ ev e' (codeN x) := of_decide_eq_true (List.all_eq_true.1 hg x hx)
  have h1 := est_le he hf he' _ h0
  have h2 := comb_ge (add := true) (hf' (codeN x)) (l := codesD l) (List.mem_map_of_mem (mem_dedup.2 (List.mem_map_of_mem hx)))
  exact ⟨h1.1, Int.le_trans h1.2 h2⟩

theorem plan_len {t : Task} (ht : isB t = true) {s : List Int} {d : Dj} {l : List Lit} {p : List Int} (h : PlanOK t s d l p) : p.length ≤ 1000000000 := by
  have h1 := h.len
  have h2 := litsOf_len d.v (2 * t.facts.length)
  have h3 := (task_ok ht).facts
  omega
theorem plan_ok {t : Task} (ht : isB t = true) {s : List Int} {d : Dj} {l : List Lit} {p : List Int} (h : PlanOK t s d l p) : planB t p = true := by
  have h1 := h.len
  have h2 := litsOf_len d.v (2 * t.facts.length)
  have h3 := (task_ok ht).facts
  unfold planB
  rw [Bool.and_eq_true, List.all_eq_true]
  refine ⟨by simp; omega, fun x hx => ?_⟩
  have := h.acts x hx
  simp; omega
theorem ask_at {t : Task} {s p : List Int} {l : List Lit} (h : askI t s l = 0) (i : Nat) : askI t (stAt t s p i) l = 0 := by
  obtain ⟨hf, hl⟩ := ask_zero h
  obtain ⟨ht, hs⟩ := fine_zero hf
  have h1 : fineI t (stAt t s p i) = 0 := by unfold fineI; rw [if_pos ht, if_pos (st_rising hs i)]
  unfold askI at h ⊢
  rw [if_pos hf] at h
  rw [if_pos h1]; exact h
def kp3 : Kp := [(10, ([1, 2, 3, 4, 9, 10], [0, 32])), (17, ([2, 3, 4, 9, 10, 18, 19, 20, 21, 142, 143, 144], [32, 144]))]
def od3 : Od := [(22, [(0, .pure), (1, .pure), (2, .pure), (3, .pure), (4, .pure), (5, .pure), (6, .pure), (7, .pure), (8, .pure), (9, .pure), (10, .pure)])]
abbrev restL (k : Nat) (env : Env) (st : St) (Q : Exit → Env → St → Prop) : Prop := CutX (fun env st => wpcX cx Tryz.prog noY (modH Tryz.prog) 0 kp3 od3 (tailC k (Tryz.f3.body.get!)) env st Q) env st
set_option maxHeartbeats 2000000 in
theorem g3_tail {t : Task} {n1 n2 n3 : Bool} {s p : List Int} {l : List Lit} (h0 : askI t s l = 0) (hpl : p.length ≤ 300) {e : List Int} (he : IsE (epOf t s) false e) {X : Bool} (hX : gotB e l = X) (out : List Fr) :
    restL 7 [(1, .ints n1 s), (2, .ints n2 p), (3, .lits n3 l), (4, .ptr (.cur 32) 0), (9, .int (maxV e l)), (10, .bool X)]
      ⟨out, [(32, .box (cellsTask t))]⟩
      (retW cx Tryz.f3.results.toList fun r ro => r = .bool true ∧ ro = []) := by
  obtain ⟨hf, hl⟩ := ask_zero h0
  obtain ⟨ht, hs⟩ := fine_zero hf
  have TK := task_ok ht
  refine CutX.mk ?_
  refine SpecP.mono (g42_spec t n1 n2 s p []) ?_
  rintro _ _ ⟨hx, rfl⟩
  cases hx with
  | fault h => exact absurd hf h
  | arg h h2 =>
    refine And.intro (fun _ => ?_) fun h => absurd h (by decide)
    refine SpecP.mono (f8_spec []) ?_
    rintro _ _ ⟨rfl, rfl⟩
    refine And.intro (fun _ => ?_) fun h => by cases h
    exact Exists.intro [] (And.intro rfl rfl)
  | ran h h2 k at_ hr =>
    have hlen := stTs_len n1 t s p k
    have hkp := hr.le
    have hpm : (p.map tI).length = p.length := List.length_map ..
    refine And.intro (fun h => absurd h (by decide)) fun _ => ?_
    refine And.intro (by omega) (And.intro (by omega) ?_)
    refine And.intro (fun h => absurd (of_decide_eq_true h) (by omega)) fun _ => ?_
    refine SpecP.mono (f15_spec t n2 p []) ?_
    rintro _ _ ⟨rfl, rfl⟩
    refine And.intro (fun _ => ?_) fun h => absurd h (by rw [h2]; decide)
    have hin := rising_in hs
    have hmx0 := max_nonneg e l
    have stop : (at_ ≥ 0) ∨ (((stTs n1 t s p k).length : Int) = ((p.map tI).length : Int) + 1) := by
      rcases hr.stop with ⟨h3, _⟩ | ⟨_, _, h3⟩
      · right; omega
      · left; omega
    refine LoopX.mk (Nat × (Int × Int)) (fun q => q.1 ≤ k + 1 ∧ (q.1 = 0 → q.2.1 = 0 ∧ q.2.2 = maxV e l) ∧
        (∀ j, q.1 = j + 1 → X = true ∧ q.2.1 = costAt t p j ∧ ∃ e1, IsE (epOf t (stAt t s p j)) false e1 ∧ gotB e1 l = true ∧ q.2.2 = maxV e1 l ∧ maxV e l ≤ maxV e1 l + costAt t p j))
      (fun q => [(2, .ints n2 p), (3, .lits n3 l), (4, .ptr (.cur 32) 0), (9, .int (maxV e l)), (10, .bool X), (18, .ptr (.cur 144) 0), (19, .int at_), (20, .int q.2.1), (21, .int q.2.2), (142, .t (.sl false 1 (stTs n1 t s p k))), (143, .int (stTs n1 t s p k).length), (144, .int q.1)])
      (fun _ => ⟨out, [(32, .box (cellsTask t)), (144, .box [.t (.sl false 1 (stTs n1 t s p k)), .int (costAt t p k), .bool (holdsB (stAt t s p k) t.goal)])]⟩) (fun q => k + 1 - q.1) (0, 0, maxV e l) ⟨Nat.zero_le _, fun _ => ⟨rfl, rfl⟩, fun j h => by cases h⟩ ⟨rfl, rfl⟩ ?_
    rintro ⟨i, cost, before⟩ ⟨hi0, hz, hp1⟩
    simp only at hi0 hz hp1
    refine And.intro (fun h3 => ?_) fun h3 => ?_
    rotate_left
    · refine And.intro (fun _ => ?_) fun h4 => ?_
      · refine SpecP.mono (f8_spec []) ?_
        rintro _ _ ⟨rfl, rfl⟩
        refine And.intro (fun _ => ?_) fun h => by cases h
        exact Exists.intro [] (And.intro rfl rfl)
      have h4' : ¬ at_ ≥ 0 := of_decide_eq_false h4
      refine And.intro (by omega) (And.intro (by omega) ?_)
      refine And.intro (fun _ => ?_) fun h => absurd h (by
        rcases stop with h5 | h5
        · exact absurd h5 h4'
        · rw [h5]; simp)
      refine SpecP.mono (f8_spec []) ?_
      rintro _ _ ⟨rfl, rfl⟩
      refine And.intro (fun _ => ?_) fun h => by cases h
      exact Exists.intro [] (And.intro rfl rfl)
    have hik : i ≤ k := by
      have h3' : (i : Int) < ((stTs n1 t s p k).length : Int) := of_decide_eq_true h3
      omega
    refine And.intro (by omega) (Exists.intro _ (And.intro (by rw [Int.toNat_natCast]; exact stTs_get hik) ?_))
    have hai := ask_at (p := p) h0 i
    refine SpecP.mono (f9_spec t (stN n1 t s p i) n3 (stAt t s p i) l []) ?_
    rintro _ _ ⟨⟨h0', _⟩ | ⟨_, d1, hd1, rfl⟩, rfl⟩
    · exact absurd hai h0'
    have hsi := st_rising (t := t) (p := p) hs i
    have hini := rising_in hsi
    have hn0 := max_nonneg d1.v l
    have hn1 : maxV d1.v l ≤ 1099511627777 := by unfold maxV; split; exact comb_le_far hd1.far _; decide
    have hci := costAt_in TK h2 i (by omega)
    have hold := fun h => max_hold hd1.est hl (l := l) h
    refine And.intro (fun hg1 => ?_) fun hg1 => ?_
    rotate_left
    · refine And.intro (fun h5 => ?_) fun h5 => ?_
      · obtain ⟨j, rfl⟩ : ∃ j, i = j + 1 := ⟨i - 1, by have h6 : (i : Int) > 0 := of_decide_eq_true h5; omega⟩
        obtain ⟨hX1, hcost, e1, he1, hge1, hbef, hle⟩ := hp1 j rfl
        have hjp : j < p.length := by omega
        obtain ⟨q, hq1, hq2, hq3, hq4, _⟩ := plan_get h2 hjp
        have hgq : (p.map tI)[(((j + 1 : Nat) : Int) - 1).toNat]? = some (tI (q : Int)) := by
          rw [show (((j + 1 : Nat) : Int) - 1).toNat = j by omega, ← hq1, List.getElem?_map, List.getElem?_eq_getElem hjp]; rfl
        have hcj : costAt t p (j + 1) = costAt t p j + t.acts[q].cost := by rw [costAt, hq3]
        have hcq := TK.cost _ (List.getElem_mem hq2)
        refine And.intro (by omega) (And.intro (by omega) (And.intro (by omega) (Exists.intro _ (And.intro hgq ?_))))
        refine And.intro (by omega) (Exists.intro _ (And.intro (get_map hq2) ?_))
        refine And.intro (by show (-9223372036854775808 : Int) ≤ cost + t.acts[q].cost; omega) (And.intro (by show cost + t.acts[q].cost ≤ 9223372036854775807; omega) ?_)
        refine And.intro (fun h => absurd h (by decide)) fun _ => ?_
        refine SpecP.mono (g13_spec (stN n1 t s p (j + 1)) n3 (stAt t s p (j + 1)) l []) ?_
        rintro _ _ ⟨rfl, rfl⟩
        refine And.intro (fun h6 => ?_) fun _ => ?_
        · have := (hold h6).1; rw [hg1] at this; cases this
        refine And.intro (fun _ => ?_) fun h4 => ?_
        · refine SpecP.mono (f8_spec []) ?_
          rintro _ _ ⟨rfl, rfl⟩
          refine And.intro (fun _ => ?_) fun h => by cases h
          exact Exists.intro [] (And.intro rfl rfl)
        have h4' : ¬ at_ ≥ 0 := of_decide_eq_false h4
        refine And.intro (by omega) (And.intro (by omega) ?_)
        refine And.intro (fun _ => ?_) fun h => absurd h (by
          rcases stop with h5 | h5
          · exact absurd h5 h4'
          · rw [h5]; simp)
        refine SpecP.mono (f8_spec []) ?_
        rintro _ _ ⟨rfl, rfl⟩
        refine And.intro (fun _ => ?_) fun h => by cases h
        exact Exists.intro [] (And.intro rfl rfl)
      · obtain rfl : i = 0 := by have h6 : ¬ (i : Int) > 0 := of_decide_eq_false h5; omega
        obtain ⟨hcost, hbef⟩ := hz rfl
        refine And.intro (by show (-9223372036854775808 : Int) ≤ cost + 0; omega) (And.intro (by show cost + 0 ≤ 9223372036854775807; omega) ?_)
        refine And.intro (fun h => absurd h (by decide)) fun _ => ?_
        refine SpecP.mono (g13_spec (stN n1 t s p 0) n3 (stAt t s p 0) l []) ?_
        rintro _ _ ⟨rfl, rfl⟩
        refine And.intro (fun h6 => ?_) fun _ => ?_
        · have := (hold h6).1; rw [hg1] at this; cases this
        refine And.intro (fun _ => ?_) fun h4 => ?_
        · refine SpecP.mono (f8_spec []) ?_
          rintro _ _ ⟨rfl, rfl⟩
          refine And.intro (fun _ => ?_) fun h => by cases h
          exact Exists.intro [] (And.intro rfl rfl)
        have h4' : ¬ at_ ≥ 0 := of_decide_eq_false h4
        refine And.intro (by omega) (And.intro (by omega) ?_)
        refine And.intro (fun _ => ?_) fun h => absurd h (by
          rcases stop with h5 | h5
          · exact absurd h5 h4'
          · rw [h5]; simp)
        refine SpecP.mono (f8_spec []) ?_
        rintro _ _ ⟨rfl, rfl⟩
        refine And.intro (fun _ => ?_) fun h => by cases h
        exact Exists.intro [] (And.intro rfl rfl)
    · refine And.intro (fun h5 => ?_) fun h5 => ?_
      · obtain ⟨hX0, _⟩ : X = true ∧ True := ⟨(hp1 (i - 1) (by have h6 : (i : Int) > 0 := of_decide_eq_true h5; omega)).1, trivial⟩
        subst hX0
        obtain ⟨j, rfl⟩ : ∃ j, i = j + 1 := ⟨i - 1, by have h6 : (i : Int) > 0 := of_decide_eq_true h5; omega⟩
        obtain ⟨hX1, hcost, e1, he1, hge1, hbef, hle⟩ := hp1 j rfl
        have hjp : j < p.length := by omega
        obtain ⟨q, hq1, hq2, hq3, hq4, _⟩ := plan_get h2 hjp
        have hgq : (p.map tI)[(((j + 1 : Nat) : Int) - 1).toNat]? = some (tI (q : Int)) := by
          rw [show (((j + 1 : Nat) : Int) - 1).toNat = j by omega, ← hq1, List.getElem?_map, List.getElem?_eq_getElem hjp]; rfl
        have hcj : costAt t p (j + 1) = costAt t p j + t.acts[q].cost := by rw [costAt, hq3]
        have hcq := TK.cost _ (List.getElem_mem hq2)
        refine And.intro (by omega) (And.intro (by omega) (And.intro (by omega) (Exists.intro _ (And.intro hgq ?_))))
        refine And.intro (by omega) (Exists.intro _ (And.intro (get_map hq2) ?_))
        refine And.intro (by show (-9223372036854775808 : Int) ≤ cost + t.acts[q].cost; omega) (And.intro (by show cost + t.acts[q].cost ≤ 9223372036854775807; omega) ?_)
        refine And.intro (fun h => absurd h (by decide)) fun _ => ?_
        have hms := max_step ht (rising_in (st_rising (t := t) (p := p) hs j)) he1 hq4 (hr.ok j (by omega)) hd1.est hg1
        rw [hq3] at hms
        refine And.intro (fun _ => ?_) fun h => absurd (of_decide_eq_false h) (by show ¬ ¬ ((j + 1 : Nat) : Int) > 0; omega)
        refine And.intro (by show (-9223372036854775808 : Int) ≤ maxV d1.v l + t.acts[q].cost; omega) (And.intro (by show maxV d1.v l + t.acts[q].cost ≤ 9223372036854775807; omega) ?_)
        refine And.intro (fun h => absurd (of_decide_eq_true h) (by show ¬ before > maxV d1.v l + t.acts[q].cost; omega)) fun _ => ?_
        refine SpecP.mono (g13_spec (stN n1 t s p (j + 1)) n3 (stAt t s p (j + 1)) l []) ?_
        rintro _ _ ⟨rfl, rfl⟩
        refine And.intro (fun h6 => ?_) fun _ => ?_
        · have hh := (hold h6).2
          refine And.intro (fun h => absurd (of_decide_eq_true h) (by show ¬ maxV e l > cost + t.acts[q].cost; omega)) fun _ => ?_
          refine And.intro (fun h => absurd h (by rw [hh]; decide)) fun _ => ?_
          refine And.intro (by show (-9223372036854775808 : Int) ≤ ((j + 1 : Nat) : Int) + 1; omega) (And.intro (by show ((j + 1 : Nat) : Int) + 1 ≤ 9223372036854775807; omega) ?_)
          exact Exists.intro (j + 1 + 1, cost + t.acts[q].cost, maxV d1.v l) (And.intro (by show k + 1 - (j + 1 + 1) < k + 1 - (j + 1); omega) (And.intro ⟨by show j + 1 + 1 ≤ k + 1; omega, (fun h => by cases h), fun j' hj' => by
            obtain rfl : j' = j + 1 := by have : j + 1 + 1 = j' + 1 := hj'; omega
            exact ⟨rfl, by rw [hcj, hcost], d1.v, hd1.est, hg1, rfl, by omega⟩⟩ (And.intro rfl rfl)))
        · refine And.intro (by show (-9223372036854775808 : Int) ≤ ((j + 1 : Nat) : Int) + 1; omega) (And.intro (by show ((j + 1 : Nat) : Int) + 1 ≤ 9223372036854775807; omega) ?_)
          exact Exists.intro (j + 1 + 1, cost + t.acts[q].cost, maxV d1.v l) (And.intro (by show k + 1 - (j + 1 + 1) < k + 1 - (j + 1); omega) (And.intro ⟨by show j + 1 + 1 ≤ k + 1; omega, (fun h => by cases h), fun j' hj' => by
            obtain rfl : j' = j + 1 := by have : j + 1 + 1 = j' + 1 := hj'; omega
            exact ⟨rfl, by rw [hcj, hcost], d1.v, hd1.est, hg1, rfl, by omega⟩⟩ (And.intro rfl rfl)))
      · obtain rfl : i = 0 := by have h6 : ¬ (i : Int) > 0 := of_decide_eq_false h5; omega
        obtain ⟨hcost, hbef⟩ := hz rfl
        refine And.intro (by show (-9223372036854775808 : Int) ≤ cost + 0; omega) (And.intro (by show cost + 0 ≤ 9223372036854775807; omega) ?_)
        refine And.intro (fun h => absurd h (by decide)) fun _ => ?_
        obtain rfl : X = true := by rw [← hX, he.unique hd1.est]; exact hg1
        refine And.intro (fun h => absurd (of_decide_eq_true h) (by show ¬ ((0 : Nat) : Int) > 0; decide)) fun _ => ?_
        refine SpecP.mono (g13_spec (stN n1 t s p 0) n3 (stAt t s p 0) l []) ?_
        rintro _ _ ⟨rfl, rfl⟩
        refine And.intro (fun h6 => ?_) fun _ => ?_
        · have hh := (hold h6).2
          have hee : e = d1.v := he.unique hd1.est
          refine And.intro (fun h => absurd (of_decide_eq_true h) (by show ¬ maxV e l > cost + 0; rw [hee]; omega)) fun _ => ?_
          refine And.intro (fun h => absurd h (by rw [hh]; decide)) fun _ => ?_
          refine And.intro (by show (-9223372036854775808 : Int) ≤ ((0 : Nat) : Int) + 1; omega) (And.intro (by show ((0 : Nat) : Int) + 1 ≤ 9223372036854775807; omega) ?_)
          exact Exists.intro (1, cost + 0, maxV d1.v l) (And.intro (by show k + 1 - 1 < k + 1 - 0; omega) (And.intro ⟨by show 1 ≤ k + 1; omega, (fun h => by cases h), fun j' hj' => by
            obtain rfl : j' = 0 := by have : 1 = j' + 1 := hj'; omega
            exact ⟨rfl, by show cost + 0 = 0; omega, d1.v, hd1.est, hg1, rfl, by rw [he.unique hd1.est]; show _ ≤ _ + (0 : Int); omega⟩⟩ (And.intro rfl rfl)))
        · refine And.intro (by show (-9223372036854775808 : Int) ≤ ((0 : Nat) : Int) + 1; omega) (And.intro (by show ((0 : Nat) : Int) + 1 ≤ 9223372036854775807; omega) ?_)
          exact Exists.intro (1, cost + 0, maxV d1.v l) (And.intro (by show k + 1 - 1 < k + 1 - 0; omega) (And.intro ⟨by show 1 ≤ k + 1; omega, (fun h => by cases h), fun j' hj' => by
            obtain rfl : j' = 0 := by have : 1 = j' + 1 := hj'; omega
            exact ⟨rfl, by show cost + 0 = 0; omega, d1.v, hd1.est, hg1, rfl, by rw [he.unique hd1.est]; show _ ≤ _ + (0 : Int); omega⟩⟩ (And.intro rfl rfl)))
set_option maxHeartbeats 2000000 in
theorem g3_spec (t : Task) (n1 n2 n3 : Bool) (s p : List Int) (l : List Lit) (out : List Fr) : SpecP Tryz.prog 3 [.task t, .ints n1 s, .ints n2 p, .lits n3 l] out fun r ro => r = .bool true ∧ ro = [] := by
  refine spec_walkH cx_ok mH_ok kp3 od3 (fn := Tryz.f3) (by kernel_rfl) rfl (by kernel_rfl) rfl (by unfold FnOK; kernel_rfl) fun hok => ?_
  refine SpecP.mono (f7_spec t n1 n3 s l []) ?_
  rintro _ _ ⟨⟨b, rfl, hb⟩, rfl⟩
  refine And.intro (fun h1 => ?_) fun h1 => ?_
  rotate_left
  · refine SpecP.mono (f8_spec []) ?_
    rintro _ _ ⟨rfl, rfl⟩
    refine And.intro (fun _ => ?_) fun h => by cases h
    exact Exists.intro [] (And.intro rfl rfl)
  obtain ⟨_, hll⟩ := hb h1
  clear hb h1
  have hll' : l.length ≤ 1000000000 := by omega
  refine And.intro (fun h1 => ?_) fun h1 => ?_
  · refine SpecP.mono (f8_spec []) ?_
    rintro _ _ ⟨rfl, rfl⟩
    refine And.intro (fun _ => ?_) fun h => by cases h
    exact Exists.intro [] (And.intro rfl rfl)
  have hpl : p.length ≤ 300 := by
    have h1' : ¬ ((p.map tI).length : Int) > 300 := of_decide_eq_false h1
    rw [List.length_map] at h1'; omega
  clear h1
  refine SpecP.mono (f11_spec t n1 n3 s l []) ?_
  rintro _ _ ⟨rfl, rfl⟩
  refine And.intro (fun h1 => ?_) fun h1 => ?_
  · refine SpecP.mono (f8_spec []) ?_
    rintro _ _ ⟨rfl, rfl⟩
    refine And.intro (fun _ => ?_) fun h => by cases h
    exact Exists.intro [] (And.intro rfl rfl)
  have h0 : askI t s l = 0 := by simpa using h1
  clear h1
  obtain ⟨hf, hl⟩ := ask_zero h0
  obtain ⟨ht, hs⟩ := fine_zero hf
  have TK := task_ok ht
  refine SpecP.mono (f9_spec t n1 n3 s l []) ?_
  rintro _ _ ⟨⟨h0', _⟩ | ⟨_, d, hd, rfl⟩, rfl⟩
  · exact absurd h0 h0'
  have hr := fun (d' : Dj) (hd' : EstOK t s true d') => got_same (epOf_ok ht s) hd.est hd'.est l
  cases hg : gotB d.v l
  · refine And.intro (fun h => by cases h) fun _ => ?_
    refine SpecP.mono (f10_spec t n1 n3 s l hll' []) ?_
    rintro _ _ ⟨⟨h0', _⟩ | ⟨_, d', hd', h10⟩, rfl⟩
    · exact absurd h0 h0'
    have hg' : gotB d'.v l = false := (hr d' hd').symm.trans hg
    rw [if_pos hg'] at h10
    subst h10
    refine And.intro (fun h => by cases h) fun _ => ?_
    refine SpecP.mono (f14c_spec t n1 n3 s l hll' []) ?_
    rintro _ _ ⟨⟨h0', _⟩ | ⟨_, d2, hd2, hcase⟩, rfl⟩
    · exact absurd h0 h0'
    rw [hd2.est.unique hd.est] at hcase
    rcases hcase with ⟨_, rfl⟩ | ⟨hg2, _⟩
    rotate_left
    · rw [hg] at hg2; cases hg2
    have hm0 : maxV d.v l = 0 := by unfold maxV; rw [hg]; rfl
    refine And.intro (fun h => by cases h) fun _ => ?_
    refine And.intro (fun h => absurd h (by decide)) fun _ => ?_
    refine And.intro (fun h => absurd h (by decide)) fun _ => ?_
    refine And.intro (fun h => absurd h (by decide)) fun _ => ?_
    refine And.intro (fun h => absurd h (by decide)) fun _ => ?_
    refine And.intro (fun _ => ?_) fun h => absurd h (by decide)
    refine And.intro (fun h => absurd h (by decide)) fun _ => ?_
    refine And.intro (fun h => absurd (of_decide_eq_true h) (by show ¬ (0 : Int) < maxV d.v l; omega)) fun _ => ?_
    exact g3_tail h0 hpl hd.est hg out
  · refine And.intro (fun _ => ?_) fun h => by cases h
    refine SpecP.mono (f10_spec t n1 n3 s l hll' []) ?_
    rintro _ _ ⟨⟨h0', _⟩ | ⟨_, d', hd', h10⟩, rfl⟩
    · exact absurd h0 h0'
    have hg' : gotB d'.v l = true := (hr d' hd').symm.trans hg
    rw [hg', if_neg (by decide)] at h10
    by_cases hfar : addV d'.v l ≥ farI
    · rw [if_pos hfar] at h10
      subst h10
      refine And.intro (fun h => by cases h) fun _ => ?_
      refine SpecP.mono (f14c_spec t n1 n3 s l hll' []) ?_
      rintro _ _ ⟨⟨h0', _⟩ | ⟨_, d2, hd2, hcase⟩, rfl⟩
      · exact absurd h0 h0'
      rw [hd2.est.unique hd.est] at hcase
      rcases hcase with ⟨hg2, _⟩ | ⟨_, p', hp', rfl⟩
      · rw [hg] at hg2; cases hg2
      have hp'' : PlanOK t s d2 l p' := hp'
      have hpok := plan_ok ht hp''
      have hcost := takes_cost TK hd.est hpok hp'.takes
      refine And.intro (fun _ => ?_) fun h => by cases h
      refine And.intro (fun h => absurd h (by decide)) fun _ => ?_
      refine And.intro (fun h => absurd h (by decide)) fun _ => ?_
      refine And.intro (fun _ => ?_) fun h => absurd h (by decide)
      refine And.intro (fun h => absurd h (by decide)) fun _ => ?_
      refine And.intro (fun h => absurd h (by decide)) fun _ => ?_
      refine And.intro (fun h => absurd h (by decide)) fun _ => ?_
      refine SpecP.mono (f15_spec t p'.isEmpty p' []) ?_
      rintro _ _ ⟨rfl, rfl⟩
      refine And.intro (fun _ => ?_) fun h => absurd h (by rw [hpok]; decide)
      refine SpecP.mono (g11_spec t p'.isEmpty p' TK hpok []) ?_
      rintro _ _ ⟨rfl, rfl⟩
      refine And.intro (fun h => absurd (of_decide_eq_true h) (by show ¬ costAt t p' p'.length < maxV d.v l; omega)) fun _ => ?_
      exact g3_tail h0 hpl hd.est hg out
    · rw [if_neg hfar] at h10
      subst h10
      have hma := max_add hd.est hd.far hd'.est hd'.far hg'
      refine And.intro (fun _ => ?_) fun h => by cases h
      refine SpecP.mono (f14c_spec t n1 n3 s l hll' []) ?_
      rintro _ _ ⟨⟨h0', _⟩ | ⟨_, d2, hd2, hcase⟩, rfl⟩
      · exact absurd h0 h0'
      rw [hd2.est.unique hd.est] at hcase
      rcases hcase with ⟨hg2, _⟩ | ⟨_, p', hp', rfl⟩
      · rw [hg] at hg2; cases hg2
      have hp'' : PlanOK t s d2 l p' := hp'
      have hpok := plan_ok ht hp''
      have hcost := takes_cost TK hd.est hpok hp'.takes
      refine And.intro (fun _ => ?_) fun h => by cases h
      refine And.intro (fun h => absurd h (by decide)) fun _ => ?_
      refine And.intro (fun h => absurd h (by decide)) fun _ => ?_
      refine And.intro (fun h => absurd h (by decide)) fun _ => ?_
      refine And.intro (fun h => absurd h (by decide)) fun _ => ?_
      refine And.intro (fun _ => ?_) fun h => absurd h (by decide)
      refine And.intro (fun h => absurd h (by decide)) fun _ => ?_
      refine And.intro (fun h => absurd (of_decide_eq_true h) (by show ¬ addV d'.v l < maxV d.v l; omega)) fun _ => ?_
      refine SpecP.mono (f15_spec t p'.isEmpty p' []) ?_
      rintro _ _ ⟨rfl, rfl⟩
      refine And.intro (fun _ => ?_) fun h => absurd h (by rw [hpok]; decide)
      refine SpecP.mono (g11_spec t p'.isEmpty p' TK hpok []) ?_
      rintro _ _ ⟨rfl, rfl⟩
      refine And.intro (fun h => absurd (of_decide_eq_true h) (by show ¬ costAt t p' p'.length < maxV d.v l; omega)) fun _ => ?_
      exact g3_tail h0 hpl hd.est hg out

end Go.Fw

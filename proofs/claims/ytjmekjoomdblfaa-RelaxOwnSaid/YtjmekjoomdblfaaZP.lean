/- The laws of the relaxation. -/
import Derived.Test.YtjmekjoomdblfaaZO

/- The law RelaxEstimates. -/
namespace Go.Fw
open Go Go.Proofs Heap
set_option maxRecDepth 10000

theorem f3_spec (t : Task) (n1 n2 : Bool) (s : List Int) (l : List Lit) (out : List Fr) : SpecP Try.prog 3 [.task t, .ints n1 s, .lits n2 l] out fun r ro => r = .bool true ∧ ro = [] := by
  refine spec_body cx_ok [] [] (fn := Try.f3) (by kernel_rfl) rfl (by kernel_rfl) rfl (by unfold FnOK; kernel_rfl) fun hok => ?_
  refine SpecP.mono (f7_spec t n1 n2 s l []) ?_
  rintro _ _ ⟨⟨b, rfl, hb⟩, rfl⟩
  refine And.intro (fun h1 => ?_) fun h1 => ?_
  rotate_left
  · refine SpecP.mono (f8_spec []) ?_
    rintro _ _ ⟨rfl, rfl⟩
    refine And.intro (fun _ => ?_) fun h => by cases h
    exact Exists.intro [] (And.intro rfl rfl)
  obtain ⟨_, hll⟩ := hb h1
  clear hb h1
  have hll' : l.length ≤ 1000000000 := by omega
  refine SpecP.mono (f9_spec t n1 n2 s l []) ?_
  rintro _ _ ⟨⟨h0, rfl⟩ | ⟨h0, d, hd, rfl⟩, rfl⟩
  · refine And.intro (fun h => by cases h) fun _ => ?_
    refine SpecP.mono (f10_spec t n1 n2 s l hll' []) ?_
    rintro _ _ ⟨⟨_, rfl⟩ | ⟨h0', _⟩, rfl⟩
    rotate_left
    · exact absurd h0' h0
    refine And.intro (fun h => by cases h) fun _ => ?_
    refine SpecP.mono (f11_spec t n1 n2 s l []) ?_
    rintro _ _ ⟨rfl, rfl⟩
    refine And.intro (fun _ => ?_) fun h => absurd h (by simpa using h0)
    refine And.intro (fun _ => ?_) fun h => absurd h (by simp)
    refine And.intro (fun _ => ?_) fun h => absurd h (by simp)
    refine And.intro (fun _ => ?_) fun h => absurd h (by simp)
    refine And.intro (fun _ => ?_) fun h => absurd h (by simp)
    refine SpecP.mono (f8_spec []) ?_
    rintro _ _ ⟨rfl, rfl⟩
    refine And.intro (fun _ => ?_) fun h => by cases h
    exact Exists.intro [] (And.intro rfl rfl)
  · have hv : IsE (epOf t s) false d.v := hd.est
    obtain ⟨ht, _⟩ := fine_zero (ask_zero h0).1
    have hl := (ask_zero h0).2
    have hmax : ∀ e, IsE (epOf t s) false e → valueR false e (dedL l) = .tup [.int (maxV d.v l), .bool (gotB d.v l)] := fun e he => by rw [he.unique hv]; exact value_max ..
    have hr := fun (d' : Dj) (hd' : EstOK t s true d') => got_same (epOf_ok ht s) hv hd'.est l
    cases hg : gotB d.v l
    · refine And.intro (fun h => by cases h) fun _ => ?_
      refine SpecP.mono (f10_spec t n1 n2 s l hll' []) ?_
      rintro _ _ ⟨⟨h0', _⟩ | ⟨_, d', hd', h10⟩, rfl⟩
      · exact absurd h0 h0'
      have hg' : gotB d'.v l = false := (hr d' hd').symm.trans hg
      rw [if_pos hg'] at h10
      subst h10
      refine And.intro (fun h => by cases h) fun _ => ?_
      refine SpecP.mono (f11_spec t n1 n2 s l []) ?_
      rintro _ _ ⟨rfl, rfl⟩
      refine And.intro (fun h => absurd h (by simpa using h0)) fun _ => ?_
      refine SpecP.mono (f12_spec t n1 n2 false s l ht hl hll' []) ?_
      rintro _ _ ⟨e, he, _, hve, rfl⟩
      rw [hmax e he, hg] at hve
      subst hve
      refine And.intro (fun h => by cases h) fun _ => ?_
      refine SpecP.mono (f12_spec t n1 n2 true s l ht hl hll' []) ?_
      rintro _ _ ⟨e2, he2, _, hve, rfl⟩
      rw [he2.unique hd'.est, value_add, hg', if_neg (by decide)] at hve
      subst hve
      refine And.intro (fun h => absurd h (by decide)) fun _ => ?_
      refine And.intro (fun h => absurd h (by decide)) fun _ => ?_
      refine And.intro (fun h => absurd h (by decide)) fun _ => ?_
      refine And.intro (fun h => absurd h (by simp)) fun _ => ?_
      refine And.intro (fun h => absurd h (by decide)) fun _ => ?_
      refine And.intro (fun _ => ?_) fun h => absurd h (by decide)
      refine And.intro (fun _ => ?_) fun h => absurd h (by decide)
      refine And.intro (fun _ => ?_) fun h => absurd h (by decide)
      refine SpecP.mono (f8_spec []) ?_
      rintro _ _ ⟨rfl, rfl⟩
      refine And.intro (fun _ => ?_) fun h => by cases h
      exact Exists.intro [] (And.intro rfl rfl)
    · refine And.intro (fun _ => ?_) fun h => by cases h
      refine SpecP.mono (f10_spec t n1 n2 s l hll' []) ?_
      rintro _ _ ⟨⟨h0', _⟩ | ⟨_, d', hd', h10⟩, rfl⟩
      · exact absurd h0 h0'
      have hg' : gotB d'.v l = true := (hr d' hd').symm.trans hg
      rw [hg', if_neg (by decide)] at h10
      by_cases hfar : addV d'.v l ≥ farI
      · rw [if_pos hfar] at h10
        subst h10
        refine And.intro (fun h => by cases h) fun _ => ?_
        refine SpecP.mono (f11_spec t n1 n2 s l []) ?_
        rintro _ _ ⟨rfl, rfl⟩
        refine And.intro (fun h => absurd h (by simpa using h0)) fun _ => ?_
        refine SpecP.mono (f12_spec t n1 n2 false s l ht hl hll' []) ?_
        rintro _ _ ⟨e, he, _, hve, rfl⟩
        rw [hmax e he, hg] at hve
        subst hve
        refine And.intro (fun _ => ?_) fun h => by cases h
        refine SpecP.mono (f12_spec t n1 n2 true s l ht hl hll' []) ?_
        rintro _ _ ⟨e2, he2, _, hve, rfl⟩
        rw [he2.unique hd'.est, value_add, hg', if_pos rfl] at hve
        subst hve
        refine And.intro (fun _ => ?_) fun h => absurd h (by decide)
        refine And.intro (fun h => absurd h (by decide)) fun _ => ?_
        refine And.intro (fun h => absurd h (by decide)) fun _ => ?_
        refine And.intro (fun h => absurd h (by simp)) fun _ => ?_
        refine And.intro (fun _ => ?_) fun h => absurd (of_decide_eq_false h) (by unfold farI at hfar; omega)
        refine And.intro (fun _ => ?_) fun h => absurd h (by decide)
        refine And.intro (fun _ => ?_) fun h => absurd h (by decide)
        refine SpecP.mono (f8_spec []) ?_
        rintro _ _ ⟨rfl, rfl⟩
        refine And.intro (fun _ => ?_) fun h => by cases h
        exact Exists.intro [] (And.intro rfl rfl)
      · rw [if_neg hfar] at h10
        subst h10
        refine And.intro (fun _ => ?_) fun h => by cases h
        refine SpecP.mono (f11_spec t n1 n2 s l []) ?_
        rintro _ _ ⟨rfl, rfl⟩
        refine And.intro (fun h => absurd h (by simpa using h0)) fun _ => ?_
        refine SpecP.mono (f12_spec t n1 n2 false s l ht hl hll' []) ?_
        rintro _ _ ⟨e, he, _, hve, rfl⟩
        rw [hmax e he, hg] at hve
        subst hve
        refine And.intro (fun _ => ?_) fun h => by cases h
        refine SpecP.mono (f12_spec t n1 n2 true s l ht hl hll' []) ?_
        rintro _ _ ⟨e2, he2, _, hve, rfl⟩
        rw [he2.unique hd'.est, value_add, hg', if_pos rfl] at hve
        subst hve
        refine And.intro (fun _ => ?_) fun h => absurd h (by decide)
        refine And.intro (fun h => absurd h (by decide)) fun _ => ?_
        refine And.intro (fun h => absurd h (by decide)) fun _ => ?_
        refine And.intro (fun h => absurd h (by simp)) fun _ => ?_
        refine And.intro (fun h => absurd (of_decide_eq_true h) (by unfold farI at hfar; omega)) fun _ => ?_
        refine And.intro (fun _ => ?_) fun h => absurd h (by decide)
        refine And.intro (fun _ => ?_) fun h => absurd h (by decide)
        refine And.intro (fun _ => ?_) fun h => absurd h (by simp)
        refine SpecP.mono (f8_spec []) ?_
        rintro _ _ ⟨rfl, rfl⟩
        refine And.intro (fun _ => ?_) fun h => by cases h
        exact Exists.intro [] (And.intro rfl rfl)

end Go.Fw

/- The law RelaxReached. -/
namespace Go.Fw
open Go Go.Proofs Heap
set_option maxRecDepth 10000

theorem f11n_spec (t : Task) (n1 : Bool) (s : List Int) (out : List Fr) : SpecP Try.prog 11 [.task t, .ints n1 s, .t (.sl true 0 [])] out fun r ro => r = .int (fineI t s) ∧ ro = [] := by
  have h := f11_spec t n1 true s [] out
  have e : askI t s [] = fineI t s := by unfold askI; split <;> simp [*]
  rw [e] at h
  exact SpecP.conv (args' := [.task t, .ints n1 s, .lits true []]) (fun β RO w vals hv => ⟨hv.1, fun i z v hz hvz => by
    match i with
    | 0 => exact hv.2 0 z v hz hvz
    | 1 => exact hv.2 1 z v hz hvz
    | 2 => simp at hz; subst hz; exact nil_sz _ _ _ _ (hv.2 2 _ v rfl hvz)
    | i + 3 => simp at hz⟩) h
theorem f20n_spec (n1 : Bool) (l : List Lit) (out : List Fr) : SpecP Try.prog 20 [.lits n1 l, .t (.sl true 0 [])] out fun r ro => r = .bool (decide (l = [])) ∧ ro = [] :=
  SpecP.conv (args' := [.lits n1 l, .lits true []]) (fun β RO w vals hv => ⟨hv.1, fun i z v hz hvz => by
    match i with
    | 0 => exact hv.2 0 z v hz hvz
    | 1 => simp at hz; subst hz; exact nil_sz _ _ _ _ (hv.2 1 _ v rfl hvz)
    | i + 2 => simp at hz⟩) (f20_spec n1 true l [] out)
theorem f5_spec (t : Task) (n1 n2 : Bool) (s : List Int) (l : List Lit) (out : List Fr) : SpecP Try.prog 5 [.task t, .ints n1 s, .lits n2 l] out fun r ro => r = .bool true ∧ ro = [] := by
  refine spec_body cx_ok [] [] (fn := Try.f5) (by kernel_rfl) rfl (by kernel_rfl) rfl (by unfold FnOK; kernel_rfl) fun hok => ?_
  refine SpecP.mono (f7_spec t n1 n2 s l []) ?_
  rintro _ _ ⟨⟨b, rfl, hb⟩, rfl⟩
  refine And.intro (fun h1 => ?_) fun h1 => ?_
  rotate_left
  · refine SpecP.mono (f8_spec []) ?_
    rintro _ _ ⟨rfl, rfl⟩
    refine And.intro (fun _ => ?_) fun h => by cases h
    exact Exists.intro [] (And.intro rfl rfl)
  obtain ⟨_, hll⟩ := hb h1
  clear hb h1
  have hll' : l.length ≤ 1000000000 := by omega
  refine SpecP.mono (f18c_spec t n1 s []) ?_
  rintro _ _ ⟨⟨hf, rfl⟩ | ⟨hf, d, hd, rfl⟩, rfl⟩
  · have ha : askI t s l = fineI t s := by unfold askI; rw [if_neg hf]
    refine SpecP.mono (f19_spec t n1 n2 s l []) ?_
    rintro _ _ ⟨⟨h0, rfl⟩ | ⟨h0, d, hd, rfl⟩, rfl⟩
    rotate_left
    · exact absurd (ha.symm.trans h0) hf
    refine And.intro (fun h => by cases h) fun _ => ?_
    refine SpecP.mono (f11n_spec t n1 s []) ?_
    rintro _ _ ⟨rfl, rfl⟩
    refine And.intro (fun h => absurd h (by simpa using hf)) fun _ => ?_
    refine SpecP.mono (f11_spec t n1 n2 s l []) ?_
    rintro _ _ ⟨rfl, rfl⟩
    refine And.intro (fun h => absurd h (by simpa using h0)) fun _ => ?_
    refine SpecP.mono (f11n_spec t n1 s []) ?_
    rintro _ _ ⟨rfl, rfl⟩
    refine And.intro (fun _ => ?_) fun h => absurd h (by simp)
    refine SpecP.mono (f20n_spec true [] []) ?_
    rintro _ _ ⟨rfl, rfl⟩
    refine And.intro (fun _ => ?_) fun h => absurd h (by decide)
    refine SpecP.mono (f11_spec t n1 n2 s l []) ?_
    rintro _ _ ⟨rfl, rfl⟩
    refine And.intro (fun _ => ?_) fun h => absurd h (by simp)
    refine And.intro (fun _ => ?_) fun h => absurd h (by decide)
    refine SpecP.mono (f8_spec []) ?_
    rintro _ _ ⟨rfl, rfl⟩
    refine And.intro (fun _ => ?_) fun h => by cases h
    exact Exists.intro [] (And.intro rfl rfl)
  · obtain ⟨ht, _⟩ := fine_zero hf
    refine SpecP.mono (f19_spec t n1 n2 s l []) ?_
    rintro _ _ ⟨⟨h0, rfl⟩ | ⟨h0, d2, hd2, rfl⟩, rfl⟩
    · refine And.intro (fun h => by cases h) fun _ => ?_
      refine SpecP.mono (f11n_spec t n1 s []) ?_
      rintro _ _ ⟨rfl, rfl⟩
      refine And.intro (fun _ => ?_) fun h => absurd h (by simpa using hf)
      refine SpecP.mono (f17_spec t n1 s ht []) ?_
      rintro _ _ ⟨e, he, rfl, rfl⟩
      have hde : d.v = e := hd.est.unique he
      refine SpecP.mono (f11_spec t n1 n2 s l []) ?_
      rintro _ _ ⟨rfl, rfl⟩
      refine And.intro (fun h => absurd h (by simpa using h0)) fun _ => ?_
      refine SpecP.mono (f11n_spec t n1 s []) ?_
      rintro _ _ ⟨rfl, rfl⟩
      refine And.intro (fun _ => ?_) fun h => absurd h (by simpa using hf.symm)
      refine SpecP.mono (f20_spec (litsOf d.v (2 * t.facts.length)).isEmpty (litsOf e (2 * t.facts.length)).isEmpty (litsOf d.v (2 * t.facts.length)) (litsOf e (2 * t.facts.length)) []) ?_
      rintro _ _ ⟨rfl, rfl⟩
      refine And.intro (fun _ => ?_) fun h => absurd h (by rw [hde]; simp)
      refine SpecP.mono (f11_spec t n1 n2 s l []) ?_
      rintro _ _ ⟨rfl, rfl⟩
      refine And.intro (fun _ => ?_) fun h => absurd h (by simp)
      refine And.intro (fun _ => ?_) fun h => absurd h (by decide)
      refine SpecP.mono (f8_spec []) ?_
      rintro _ _ ⟨rfl, rfl⟩
      refine And.intro (fun _ => ?_) fun h => by cases h
      exact Exists.intro [] (And.intro rfl rfl)
    · have hg : gotB d2.v l = gotB d.v l := by rw [hd2.est.unique hd.est]
      obtain ⟨_, hl⟩ := ask_zero h0
      cases hgg : gotB d.v l
      · rw [hg.trans hgg]
        refine And.intro (fun h => by cases h) fun _ => ?_
        refine SpecP.mono (f11n_spec t n1 s []) ?_
        rintro _ _ ⟨rfl, rfl⟩
        refine And.intro (fun _ => ?_) fun h => absurd h (by simpa using hf)
        refine SpecP.mono (f17_spec t n1 s ht []) ?_
        rintro _ _ ⟨e, he, rfl, rfl⟩
        have hde : d.v = e := hd.est.unique he
        refine SpecP.mono (f11_spec t n1 n2 s l []) ?_
        rintro _ _ ⟨rfl, rfl⟩
        refine And.intro (fun _ => ?_) fun h => absurd h (by simpa using h0)
        refine SpecP.mono (f12_spec t n1 n2 false s l ht hl hll' []) ?_
        rintro _ _ ⟨e3, he3, _, hve, rfl⟩
        rw [value_max, he3.unique hd.est, hgg] at hve
        subst hve
        refine And.intro (fun h => by cases h) fun _ => ?_
        refine SpecP.mono (f11n_spec t n1 s []) ?_
        rintro _ _ ⟨rfl, rfl⟩
        refine And.intro (fun _ => ?_) fun h => absurd h (by simpa using hf.symm)
        refine SpecP.mono (f20_spec (litsOf d.v (2 * t.facts.length)).isEmpty (litsOf e (2 * t.facts.length)).isEmpty (litsOf d.v (2 * t.facts.length)) (litsOf e (2 * t.facts.length)) []) ?_
        rintro _ _ ⟨rfl, rfl⟩
        refine And.intro (fun _ => ?_) fun h => absurd h (by rw [hde]; simp)
        refine SpecP.mono (f11_spec t n1 n2 s l []) ?_
        rintro _ _ ⟨rfl, rfl⟩
        refine And.intro (fun _ => ?_) fun h => absurd h (by simpa using h0.symm)
        refine And.intro (fun _ => ?_) fun h => absurd h (by decide)
        refine SpecP.mono (f8_spec []) ?_
        rintro _ _ ⟨rfl, rfl⟩
        refine And.intro (fun _ => ?_) fun h => by cases h
        exact Exists.intro [] (And.intro rfl rfl)
      · rw [hg.trans hgg]
        refine And.intro (fun _ => ?_) fun h => by cases h
        refine SpecP.mono (f11n_spec t n1 s []) ?_
        rintro _ _ ⟨rfl, rfl⟩
        refine And.intro (fun _ => ?_) fun h => absurd h (by simpa using hf)
        refine SpecP.mono (f17_spec t n1 s ht []) ?_
        rintro _ _ ⟨e, he, rfl, rfl⟩
        have hde : d.v = e := hd.est.unique he
        refine SpecP.mono (f11_spec t n1 n2 s l []) ?_
        rintro _ _ ⟨rfl, rfl⟩
        refine And.intro (fun _ => ?_) fun h => absurd h (by simpa using h0)
        refine SpecP.mono (f12_spec t n1 n2 false s l ht hl hll' []) ?_
        rintro _ _ ⟨e3, he3, _, hve, rfl⟩
        rw [value_max, he3.unique hd.est, hgg] at hve
        subst hve
        refine And.intro (fun _ => ?_) fun h => by cases h
        refine SpecP.mono (f11n_spec t n1 s []) ?_
        rintro _ _ ⟨rfl, rfl⟩
        refine And.intro (fun _ => ?_) fun h => absurd h (by simpa using hf.symm)
        refine SpecP.mono (f20_spec (litsOf d.v (2 * t.facts.length)).isEmpty (litsOf e (2 * t.facts.length)).isEmpty (litsOf d.v (2 * t.facts.length)) (litsOf e (2 * t.facts.length)) []) ?_
        rintro _ _ ⟨rfl, rfl⟩
        refine And.intro (fun _ => ?_) fun h => absurd h (by rw [hde]; simp)
        refine SpecP.mono (f11_spec t n1 n2 s l []) ?_
        rintro _ _ ⟨rfl, rfl⟩
        refine And.intro (fun _ => ?_) fun h => absurd h (by simpa using h0.symm)
        refine And.intro (fun _ => ?_) fun h => absurd h (by decide)
        refine SpecP.mono (f8_spec []) ?_
        rintro _ _ ⟨rfl, rfl⟩
        refine And.intro (fun _ => ?_) fun h => by cases h
        exact Exists.intro [] (And.intro rfl rfl)

end Go.Fw

/- The law RelaxPlans. -/
namespace Go.Fw
open Go Go.Proofs Heap
set_option maxRecDepth 10000

/-- A list, so many times. -/
def repL (p : List Int) : Nat → List Int
  | 0 => []
  | k + 1 => repL p k ++ p
theorem repL_len (p : List Int) : ∀ k, (repL p k).length = k * p.length
  | 0 => by simp [repL]
  | k + 1 => by rw [repL, List.length_append, repL_len p k, Nat.add_mul, Nat.one_mul]
theorem f15n_spec (t : Task) (out : List Fr) : SpecP Try.prog 15 [.task t, .t (.sl true 0 [])] out fun r ro => r = .bool (planB t []) ∧ ro = [] :=
  SpecP.conv (args' := [.task t, .ints true []]) (fun β RO w vals hv => ⟨hv.1, fun i z v hz hvz => by
    match i with
    | 0 => exact hv.2 0 z v hz hvz
    | 1 => simp at hz; subst hz; exact nil_sz _ _ _ _ (hv.2 1 _ v rfl hvz)
    | i + 2 => simp at hz⟩) (f15_spec t true [] out)
theorem f16n_spec (t : Task) (n1 n3 : Bool) (s : List Int) (l : List Lit) (ht : isB t = true) (hl : ∀ x ∈ l, litIn t.facts.length x) (out : List Fr) : SpecP Try.prog 16 [.task t, .ints n1 s, .t (.sl true 0 []), .lits n3 l] out fun r ro => r = .bool (takesB t s [] l) ∧ ro = [] :=
  SpecP.conv (args' := [.task t, .ints n1 s, .ints true [], .lits n3 l]) (fun β RO w vals hv => ⟨hv.1, fun i z v hz hvz => by
    match i with
    | 0 => exact hv.2 0 z v hz hvz
    | 1 => exact hv.2 1 z v hz hvz
    | 2 => simp at hz; subst hz; exact nil_sz _ _ _ _ (hv.2 2 _ v rfl hvz)
    | 3 => exact hv.2 3 z v hz hvz
    | i + 4 => simp at hz⟩) (f16_spec t n1 true n3 s [] l ht (fun x hx => by cases hx) hl (Nat.zero_le _) out)
theorem plan_len {t : Task} (ht : isB t = true) {s : List Int} {d : Dj} {l : List Lit} {p : List Int} (h : PlanOK t s d l p) : p.length ≤ 1000000000 := by
  have h1 := h.len
  have h2 := litsOf_len d.v (2 * t.facts.length)
  have h3 := (task_ok ht).facts
  omega
theorem plan_ok {t : Task} (ht : isB t = true) {s : List Int} {d : Dj} {l : List Lit} {p : List Int} (h : PlanOK t s d l p) : planB t p = true := by
  have h1 := h.len
  have h2 := litsOf_len d.v (2 * t.facts.length)
  have h3 := (task_ok ht).facts
  unfold planB
  rw [Bool.and_eq_true, List.all_eq_true]
  refine ⟨by simp; omega, fun x hx => ?_⟩
  have := h.acts x hx
  simp; omega
set_option maxHeartbeats 4000000 in
theorem f4_spec (t : Task) (n1 n2 n3 : Bool) (s p : List Int) (l : List Lit) (u : Int) (hu : 0 ≤ u ∧ u ≤ 255) (out : List Fr) : SpecP Try.prog 4 [.task t, .ints n1 s, .ints n2 p, .lits n3 l, .t (.v (.int .u8 u))] out fun r ro => r = .bool true ∧ ro = [] := by
  refine spec_body cx_ok [(5, ([1, 2, 3, 5, 11, 34, 35], [40, 312]))] [] (fn := Try.f4) (by kernel_rfl) rfl (by kernel_rfl) rfl (by unfold FnOK; kernel_rfl) fun hok => ?_
  refine SpecP.mono (f7_spec t n1 n3 s l []) ?_
  rintro _ _ ⟨⟨b, rfl, hb⟩, rfl⟩
  refine And.intro (fun h1 => ?_) fun h1 => ?_
  rotate_left
  · refine SpecP.mono (f8_spec []) ?_
    rintro _ _ ⟨rfl, rfl⟩
    refine And.intro (fun _ => ?_) fun h => by cases h
    exact Exists.intro [] (And.intro rfl rfl)
  obtain ⟨_, hll⟩ := hb h1
  clear hb h1
  have hll' : l.length ≤ 1000000000 := by omega
  refine And.intro (fun h1 => ?_) fun h1 => ?_
  · refine SpecP.mono (f8_spec []) ?_
    rintro _ _ ⟨rfl, rfl⟩
    refine And.intro (fun _ => ?_) fun h => by cases h
    exact Exists.intro [] (And.intro rfl rfl)
  have hpl : p.length ≤ 300 := by
    have h1' : ¬ ((p.map tI).length : Int) > 300 := of_decide_eq_false h1
    rw [List.length_map] at h1'; omega
  have hm : 0 ≤ u.tmod 40 ∧ u.tmod 40 < 40 := by
    have := Int.tmod_eq_emod_of_nonneg (b := 40) hu.1
    omega
  refine And.intro (by omega) (And.intro (by omega) (And.intro (by decide) (And.intro (by omega) (And.intro (by omega) ?_))))
  obtain ⟨c, hc⟩ : ∃ c : Nat, 1 + u.tmod 40 = (c : Int) := ⟨(1 + u.tmod 40).toNat, by omega⟩
  rw [hc]
  have hc40 : c ≤ 40 := by omega
  clear hc hm
  refine LoopW.mk (Nat × List Int) (fun q => q.1 ≤ c ∧ q.2 = repL p q.1) (fun q => [(1, .ints n1 s), (2, .ints n2 p), (3, .lits n3 l), (5, .ptr (.cur 40) 0), (11, accV 312 1 (q.2.map tI)), (34, .int c), (35, .int q.1)])
    (fun q => ⟨out, (40, .box (cellsTask t)) :: accO 312 3 1 (q.2.map tI)⟩) (fun q => c - q.1) (0, []) ⟨Nat.zero_le _, rfl⟩ ⟨rfl, rfl⟩ ?_
  rintro ⟨i, M⟩ ⟨hi0, hM⟩
  simp only at hi0 hM
  have hMl : M.length ≤ 12000 := by
    rw [hM, repL_len]
    exact Nat.le_trans (Nat.mul_le_mul (Nat.le_trans hi0 hc40) hpl) (by decide)
  have hMl2 : M.length ≤ 1000000000 := by omega
  cases M
  case nil =>
    let M2 : List Int := []
    refine And.intro (fun hlt => ?_) fun _ => ?_
    · cases p
      case nil =>
        have hi : i < c := by have h1' : (i : Int) < (c : Int) := of_decide_eq_true hlt; omega
        refine And.intro (by show (-9223372036854775808 : Int) ≤ (i : Int) + 1; omega) (And.intro (by show (i : Int) + 1 ≤ 9223372036854775807; omega) ?_)
        refine Exists.intro (i + 1, []) (And.intro (by show c - (i + 1) < c - i; omega) (And.intro ⟨hi, ?_⟩ ?_))
        · show _ = repL _ i ++ _
          rw [← hM]; rfl
        · exact And.intro rfl rfl
      case cons y q =>
        refine And.intro (by simp at hpl ⊢; omega) (And.intro (by simp at hpl ⊢; omega) ?_)
        have hi : i < c := by have h1' : (i : Int) < (c : Int) := of_decide_eq_true hlt; omega
        refine And.intro (by show (-9223372036854775808 : Int) ≤ (i : Int) + 1; omega) (And.intro (by show (i : Int) + 1 ≤ 9223372036854775807; omega) ?_)
        refine Exists.intro (i + 1, y :: q) (And.intro (by show c - (i + 1) < c - i; omega) (And.intro ⟨hi, ?_⟩ ?_))
        · show _ = repL _ i ++ _
          rw [← hM]; rfl
        · exact And.intro rfl rfl
    clear hM
    refine SpecP.mono (f13n_spec t n1 n3 s l []) ?_
    rintro _ _ ⟨rfl, rfl⟩
    by_cases h0 : askI t s l = 0
    rotate_left
    · rw [if_pos h0]
      refine And.intro (fun h => by cases h) fun _ => ?_
      refine SpecP.mono (f14c_spec t n1 n3 s l hll' []) ?_
      rintro _ _ ⟨⟨_, rfl⟩ | ⟨h0', _⟩, rfl⟩
      rotate_left
      · exact absurd h0' h0
      refine And.intro (fun h => by cases h) fun _ => ?_
      refine SpecP.mono (f11_spec t n1 n3 s l []) ?_
      rintro _ _ ⟨rfl, rfl⟩
      refine And.intro (fun _ => ?_) fun h => absurd h (by simpa using h0)
      refine And.intro (fun _ => ?_) fun h => absurd h (by simp)
      refine And.intro (fun _ => ?_) fun h => absurd h (by simp)
      refine And.intro (fun _ => ?_) fun h => absurd h (by decide)
      refine SpecP.mono (f8_spec []) ?_
      rintro _ _ ⟨rfl, rfl⟩
      refine And.intro (fun _ => ?_) fun h => by cases h
      exact Exists.intro [] (And.intro rfl rfl)
    rw [if_neg (fun h => h h0)]
    obtain ⟨hf, hl⟩ := ask_zero h0
    obtain ⟨ht, _⟩ := fine_zero hf
    by_cases hpl2 : planB t M2 = true
    rotate_left
    · replace hpl2 : planB t M2 = false := by simpa using hpl2
      rw [if_neg (by rw [hpl2]; decide)]
      refine And.intro (fun h => by cases h) fun _ => ?_
      refine SpecP.mono (f14c_spec t n1 n3 s l hll' []) ?_
      rintro _ _ ⟨⟨h0', _⟩ | ⟨_, d, hd, hcase⟩, rfl⟩
      · exact absurd h0 h0'
      rcases hcase with ⟨hg, rfl⟩ | ⟨hg, p', hp', rfl⟩
      · refine And.intro (fun h => by cases h) fun _ => ?_
        refine SpecP.mono (f11_spec t n1 n3 s l []) ?_
        rintro _ _ ⟨rfl, rfl⟩
        refine And.intro (fun h => absurd h (by simpa using h0)) fun _ => ?_
        refine SpecP.mono (f15n_spec t []) ?_
        rintro _ _ ⟨rfl, rfl⟩
        refine And.intro (fun h => absurd h (by rw [hpl2]; decide)) fun _ => ?_
        refine And.intro (fun h => absurd h (by decide)) fun _ => ?_
        refine SpecP.mono (f12_spec t n1 n3 false s l ht hl hll' []) ?_
        rintro _ _ ⟨e, he, _, hve, rfl⟩
        rw [value_max, he.unique hd.est, hg] at hve
        subst hve
        refine And.intro (fun h => by cases h) fun _ => ?_
        refine And.intro (fun h => absurd h (by decide)) fun _ => ?_
        refine And.intro (fun h => absurd h (by decide)) fun _ => ?_
        refine And.intro (fun _ => ?_) fun h => absurd h (by decide)
        refine SpecP.mono (f8_spec []) ?_
        rintro _ _ ⟨rfl, rfl⟩
        refine And.intro (fun _ => ?_) fun h => by cases h
        exact Exists.intro [] (And.intro rfl rfl)
      · refine And.intro (fun _ => ?_) fun h => by cases h
        refine SpecP.mono (f11_spec t n1 n3 s l []) ?_
        rintro _ _ ⟨rfl, rfl⟩
        refine And.intro (fun h => absurd h (by simpa using h0)) fun _ => ?_
        refine SpecP.mono (f15n_spec t []) ?_
        rintro _ _ ⟨rfl, rfl⟩
        refine And.intro (fun h => absurd h (by rw [hpl2]; decide)) fun _ => ?_
        refine And.intro (fun h => absurd h (by decide)) fun _ => ?_
        refine SpecP.mono (f12_spec t n1 n3 false s l ht hl hll' []) ?_
        rintro _ _ ⟨e, he, _, hve, rfl⟩
        rw [value_max, he.unique hd.est, hg] at hve
        subst hve
        refine And.intro (fun _ => ?_) fun h => by cases h
        refine And.intro (fun h => absurd h (by decide)) fun _ => ?_
        refine And.intro (fun h => absurd h (by decide)) fun _ => ?_
        refine SpecP.mono (f17_spec t n1 s ht []) ?_
        rintro _ _ ⟨e2, he2, rfl, rfl⟩
        have hde : d.v = e2 := hd.est.unique he2
        rw [← hde]
        refine And.intro (fun _ => ?_) fun h => absurd (of_decide_eq_false h) (by have := hp'.len; rw [List.length_map, List.length_map]; omega)
        refine SpecP.mono (f15_spec t p'.isEmpty p' []) ?_
        rintro _ _ ⟨rfl, rfl⟩
        refine And.intro (fun _ => ?_) fun h => absurd h (by rw [plan_ok ht hp']; decide)
        refine SpecP.mono (f16_spec t n1 p'.isEmpty n3 s p' l ht hp'.acts hl (plan_len ht hp') []) ?_
        rintro _ _ ⟨rfl, rfl⟩
        refine And.intro (fun _ => ?_) fun h => absurd h (by rw [hp'.takes]; decide)
        refine SpecP.mono (f8_spec []) ?_
        rintro _ _ ⟨rfl, rfl⟩
        refine And.intro (fun _ => ?_) fun h => by cases h
        exact Exists.intro [] (And.intro rfl rfl)
    rw [if_pos hpl2]
    refine And.intro (fun htk => ?_) fun htk => ?_
    · refine SpecP.mono (f14c_spec t n1 n3 s l hll' []) ?_
      rintro _ _ ⟨⟨h0', _⟩ | ⟨_, d, hd, hcase⟩, rfl⟩
      · exact absurd h0 h0'
      rcases hcase with ⟨hg, rfl⟩ | ⟨hg, p', hp', rfl⟩
      · refine And.intro (fun h => by cases h) fun _ => ?_
        refine SpecP.mono (f11_spec t n1 n3 s l []) ?_
        rintro _ _ ⟨rfl, rfl⟩
        refine And.intro (fun h => absurd h (by simpa using h0)) fun _ => ?_
        refine SpecP.mono (f15n_spec t []) ?_
        rintro _ _ ⟨rfl, rfl⟩
        refine And.intro (fun _ => ?_) fun h => absurd h (by rw [hpl2]; decide)
        refine And.intro (fun h => absurd h (by decide)) fun _ => ?_
        refine SpecP.mono (f16n_spec t n1 n3 s l ht hl []) ?_
        rintro _ _ ⟨rfl, rfl⟩
        refine And.intro (fun _ => ?_) fun h => absurd (htk.symm.trans h) (by decide)
        refine And.intro (fun h => absurd h (by decide)) fun _ => ?_
        refine SpecP.mono (f12_spec t n1 n3 false s l ht hl hll' []) ?_
        rintro _ _ ⟨e, he, _, hve, rfl⟩
        rw [value_max, he.unique hd.est, hg] at hve
        subst hve
        refine And.intro (fun h => by cases h) fun _ => ?_
        refine And.intro (fun h => absurd h (by decide)) fun _ => ?_
        refine And.intro (fun h => absurd h (by decide)) fun _ => ?_
        refine And.intro (fun _ => ?_) fun h => absurd h (by decide)
        refine SpecP.mono (f8_spec []) ?_
        rintro _ _ ⟨rfl, rfl⟩
        refine And.intro (fun _ => ?_) fun h => by cases h
        exact Exists.intro [] (And.intro rfl rfl)
      · refine And.intro (fun _ => ?_) fun h => by cases h
        refine SpecP.mono (f11_spec t n1 n3 s l []) ?_
        rintro _ _ ⟨rfl, rfl⟩
        refine And.intro (fun h => absurd h (by simpa using h0)) fun _ => ?_
        refine SpecP.mono (f15n_spec t []) ?_
        rintro _ _ ⟨rfl, rfl⟩
        refine And.intro (fun _ => ?_) fun h => absurd h (by rw [hpl2]; decide)
        refine And.intro (fun h => absurd h (by decide)) fun _ => ?_
        refine SpecP.mono (f16n_spec t n1 n3 s l ht hl []) ?_
        rintro _ _ ⟨rfl, rfl⟩
        refine And.intro (fun _ => ?_) fun h => absurd (htk.symm.trans h) (by decide)
        refine And.intro (fun h => absurd h (by decide)) fun _ => ?_
        refine SpecP.mono (f12_spec t n1 n3 false s l ht hl hll' []) ?_
        rintro _ _ ⟨e, he, _, hve, rfl⟩
        rw [value_max, he.unique hd.est, hg] at hve
        subst hve
        refine And.intro (fun _ => ?_) fun h => by cases h
        refine And.intro (fun h => absurd h (by decide)) fun _ => ?_
        refine And.intro (fun h => absurd h (by decide)) fun _ => ?_
        refine SpecP.mono (f17_spec t n1 s ht []) ?_
        rintro _ _ ⟨e2, he2, rfl, rfl⟩
        have hde : d.v = e2 := hd.est.unique he2
        rw [← hde]
        refine And.intro (fun _ => ?_) fun h => absurd (of_decide_eq_false h) (by have := hp'.len; rw [List.length_map, List.length_map]; omega)
        refine SpecP.mono (f15_spec t p'.isEmpty p' []) ?_
        rintro _ _ ⟨rfl, rfl⟩
        refine And.intro (fun _ => ?_) fun h => absurd h (by rw [plan_ok ht hp']; decide)
        refine SpecP.mono (f16_spec t n1 p'.isEmpty n3 s p' l ht hp'.acts hl (plan_len ht hp') []) ?_
        rintro _ _ ⟨rfl, rfl⟩
        refine And.intro (fun _ => ?_) fun h => absurd h (by rw [hp'.takes]; decide)
        refine SpecP.mono (f8_spec []) ?_
        rintro _ _ ⟨rfl, rfl⟩
        refine And.intro (fun _ => ?_) fun h => by cases h
        exact Exists.intro [] (And.intro rfl rfl)
    · refine SpecP.mono (f14c_spec t n1 n3 s l hll' []) ?_
      rintro _ _ ⟨⟨h0', _⟩ | ⟨_, d, hd, hcase⟩, rfl⟩
      · exact absurd h0 h0'
      rcases hcase with ⟨hg, rfl⟩ | ⟨hg, p', hp', rfl⟩
      · refine And.intro (fun h => by cases h) fun _ => ?_
        refine SpecP.mono (f11_spec t n1 n3 s l []) ?_
        rintro _ _ ⟨rfl, rfl⟩
        refine And.intro (fun h => absurd h (by simpa using h0)) fun _ => ?_
        refine SpecP.mono (f15n_spec t []) ?_
        rintro _ _ ⟨rfl, rfl⟩
        refine And.intro (fun _ => ?_) fun h => absurd h (by rw [hpl2]; decide)
        refine And.intro (fun h => absurd h (by decide)) fun _ => ?_
        refine SpecP.mono (f16n_spec t n1 n3 s l ht hl []) ?_
        rintro _ _ ⟨rfl, rfl⟩
        refine And.intro (fun h => absurd (htk.symm.trans h) (by decide)) fun _ => ?_
        refine And.intro (fun h => absurd h (by decide)) fun _ => ?_
        refine SpecP.mono (f12_spec t n1 n3 false s l ht hl hll' []) ?_
        rintro _ _ ⟨e, he, _, hve, rfl⟩
        rw [value_max, he.unique hd.est, hg] at hve
        subst hve
        refine And.intro (fun h => by cases h) fun _ => ?_
        refine And.intro (fun h => absurd h (by decide)) fun _ => ?_
        refine And.intro (fun h => absurd h (by decide)) fun _ => ?_
        refine And.intro (fun _ => ?_) fun h => absurd h (by decide)
        refine SpecP.mono (f8_spec []) ?_
        rintro _ _ ⟨rfl, rfl⟩
        refine And.intro (fun _ => ?_) fun h => by cases h
        exact Exists.intro [] (And.intro rfl rfl)
      · refine And.intro (fun _ => ?_) fun h => by cases h
        refine SpecP.mono (f11_spec t n1 n3 s l []) ?_
        rintro _ _ ⟨rfl, rfl⟩
        refine And.intro (fun h => absurd h (by simpa using h0)) fun _ => ?_
        refine SpecP.mono (f15n_spec t []) ?_
        rintro _ _ ⟨rfl, rfl⟩
        refine And.intro (fun _ => ?_) fun h => absurd h (by rw [hpl2]; decide)
        refine And.intro (fun h => absurd h (by decide)) fun _ => ?_
        refine SpecP.mono (f16n_spec t n1 n3 s l ht hl []) ?_
        rintro _ _ ⟨rfl, rfl⟩
        refine And.intro (fun h => absurd (htk.symm.trans h) (by decide)) fun _ => ?_
        refine And.intro (fun h => absurd h (by decide)) fun _ => ?_
        refine SpecP.mono (f12_spec t n1 n3 false s l ht hl hll' []) ?_
        rintro _ _ ⟨e, he, _, hve, rfl⟩
        rw [value_max, he.unique hd.est, hg] at hve
        subst hve
        refine And.intro (fun _ => ?_) fun h => by cases h
        refine And.intro (fun h => absurd h (by decide)) fun _ => ?_
        refine And.intro (fun h => absurd h (by decide)) fun _ => ?_
        refine SpecP.mono (f17_spec t n1 s ht []) ?_
        rintro _ _ ⟨e2, he2, rfl, rfl⟩
        have hde : d.v = e2 := hd.est.unique he2
        rw [← hde]
        refine And.intro (fun _ => ?_) fun h => absurd (of_decide_eq_false h) (by have := hp'.len; rw [List.length_map, List.length_map]; omega)
        refine SpecP.mono (f15_spec t p'.isEmpty p' []) ?_
        rintro _ _ ⟨rfl, rfl⟩
        refine And.intro (fun _ => ?_) fun h => absurd h (by rw [plan_ok ht hp']; decide)
        refine SpecP.mono (f16_spec t n1 p'.isEmpty n3 s p' l ht hp'.acts hl (plan_len ht hp') []) ?_
        rintro _ _ ⟨rfl, rfl⟩
        refine And.intro (fun _ => ?_) fun h => absurd h (by rw [hp'.takes]; decide)
        refine SpecP.mono (f8_spec []) ?_
        rintro _ _ ⟨rfl, rfl⟩
        refine And.intro (fun _ => ?_) fun h => by cases h
        exact Exists.intro [] (And.intro rfl rfl)
  case cons x r =>
    let M2 : List Int := x :: r
    refine And.intro (fun hlt => ?_) fun _ => ?_
    · refine And.intro rfl (And.intro (by simp at hpl hMl ⊢; omega) (And.intro (by simp at hpl hMl ⊢; omega) ?_))
      have hi : i < c := by have h1' : (i : Int) < (c : Int) := of_decide_eq_true hlt; omega
      refine And.intro (by show (-9223372036854775808 : Int) ≤ (i : Int) + 1; omega) (And.intro (by show (i : Int) + 1 ≤ 9223372036854775807; omega) ?_)
      refine Exists.intro (i + 1, x :: (r ++ p)) (And.intro (by show c - (i + 1) < c - i; omega) (And.intro ⟨hi, ?_⟩ ?_))
      · show _ = repL _ i ++ _
        rw [← hM]; rfl
      · simp only [List.map_cons, List.map_append]
        exact And.intro rfl rfl
    clear hM
    refine Exists.intro ((x :: r).map tI) (And.intro take_all.symm.symm (And.intro (Nat.le_of_eq (Nat.zero_add _)) ?_))
    refine SpecP.mono (f13_spec t n1 false n3 s M2 l _) ?_
    rintro _ _ ⟨rfl, rfl⟩
    by_cases h0 : askI t s l = 0
    rotate_left
    · rw [if_pos h0]
      refine And.intro ⟨trivial, trivial, trivial⟩ (And.intro trivial ?_)
      refine And.intro (fun h => by cases h) fun _ => ?_
      refine SpecP.mono (f14c_spec t n1 n3 s l hll' []) ?_
      rintro _ _ ⟨⟨_, rfl⟩ | ⟨h0', _⟩, rfl⟩
      rotate_left
      · exact absurd h0' h0
      refine And.intro (fun h => by cases h) fun _ => ?_
      refine SpecP.mono (f11_spec t n1 n3 s l []) ?_
      rintro _ _ ⟨rfl, rfl⟩
      refine And.intro (fun _ => ?_) fun h => absurd h (by simpa using h0)
      refine And.intro (fun _ => ?_) fun h => absurd h (by simp)
      refine And.intro (fun _ => ?_) fun h => absurd h (by simp)
      refine And.intro (fun _ => ?_) fun h => absurd h (by decide)
      refine SpecP.mono (f8_spec []) ?_
      rintro _ _ ⟨rfl, rfl⟩
      refine And.intro (fun _ => ?_) fun h => by cases h
      exact Exists.intro [] (And.intro rfl rfl)
    rw [if_neg (fun h => h h0)]
    obtain ⟨hf, hl⟩ := ask_zero h0
    obtain ⟨ht, _⟩ := fine_zero hf
    by_cases hpl2 : planB t M2 = true
    rotate_left
    · replace hpl2 : planB t M2 = false := by simpa using hpl2
      rw [if_neg (by rw [hpl2]; decide)]
      refine And.intro ⟨trivial, trivial, trivial⟩ (And.intro trivial ?_)
      refine And.intro (fun h => by cases h) fun _ => ?_
      refine SpecP.mono (f14c_spec t n1 n3 s l hll' []) ?_
      rintro _ _ ⟨⟨h0', _⟩ | ⟨_, d, hd, hcase⟩, rfl⟩
      · exact absurd h0 h0'
      rcases hcase with ⟨hg, rfl⟩ | ⟨hg, p', hp', rfl⟩
      · refine And.intro (fun h => by cases h) fun _ => ?_
        refine SpecP.mono (f11_spec t n1 n3 s l []) ?_
        rintro _ _ ⟨rfl, rfl⟩
        refine And.intro (fun h => absurd h (by simpa using h0)) fun _ => ?_
        refine Exists.intro ((x :: r).map tI) (And.intro take_all.symm.symm (And.intro (Nat.le_of_eq (Nat.zero_add _)) ?_))
        refine SpecP.mono (f15_spec t false M2 _) ?_
        rintro _ _ ⟨rfl, rfl⟩
        refine And.intro trivial (And.intro trivial ?_)
        refine And.intro (fun h => absurd h (by rw [hpl2]; decide)) fun _ => ?_
        refine And.intro (fun h => absurd h (by decide)) fun _ => ?_
        refine SpecP.mono (f12_spec t n1 n3 false s l ht hl hll' []) ?_
        rintro _ _ ⟨e, he, _, hve, rfl⟩
        rw [value_max, he.unique hd.est, hg] at hve
        subst hve
        refine And.intro (fun h => by cases h) fun _ => ?_
        refine And.intro (fun h => absurd h (by decide)) fun _ => ?_
        refine And.intro (fun h => absurd h (by decide)) fun _ => ?_
        refine And.intro (fun _ => ?_) fun h => absurd h (by decide)
        refine SpecP.mono (f8_spec []) ?_
        rintro _ _ ⟨rfl, rfl⟩
        refine And.intro (fun _ => ?_) fun h => by cases h
        exact Exists.intro [] (And.intro rfl rfl)
      · refine And.intro (fun _ => ?_) fun h => by cases h
        refine SpecP.mono (f11_spec t n1 n3 s l []) ?_
        rintro _ _ ⟨rfl, rfl⟩
        refine And.intro (fun h => absurd h (by simpa using h0)) fun _ => ?_
        refine Exists.intro ((x :: r).map tI) (And.intro take_all.symm.symm (And.intro (Nat.le_of_eq (Nat.zero_add _)) ?_))
        refine SpecP.mono (f15_spec t false M2 _) ?_
        rintro _ _ ⟨rfl, rfl⟩
        refine And.intro trivial (And.intro trivial ?_)
        refine And.intro (fun h => absurd h (by rw [hpl2]; decide)) fun _ => ?_
        refine And.intro (fun h => absurd h (by decide)) fun _ => ?_
        refine SpecP.mono (f12_spec t n1 n3 false s l ht hl hll' []) ?_
        rintro _ _ ⟨e, he, _, hve, rfl⟩
        rw [value_max, he.unique hd.est, hg] at hve
        subst hve
        refine And.intro (fun _ => ?_) fun h => by cases h
        refine And.intro (fun h => absurd h (by decide)) fun _ => ?_
        refine And.intro (fun h => absurd h (by decide)) fun _ => ?_
        refine SpecP.mono (f17_spec t n1 s ht []) ?_
        rintro _ _ ⟨e2, he2, rfl, rfl⟩
        have hde : d.v = e2 := hd.est.unique he2
        rw [← hde]
        refine And.intro (fun _ => ?_) fun h => absurd (of_decide_eq_false h) (by have := hp'.len; rw [List.length_map, List.length_map]; omega)
        refine SpecP.mono (f15_spec t p'.isEmpty p' []) ?_
        rintro _ _ ⟨rfl, rfl⟩
        refine And.intro (fun _ => ?_) fun h => absurd h (by rw [plan_ok ht hp']; decide)
        refine SpecP.mono (f16_spec t n1 p'.isEmpty n3 s p' l ht hp'.acts hl (plan_len ht hp') []) ?_
        rintro _ _ ⟨rfl, rfl⟩
        refine And.intro (fun _ => ?_) fun h => absurd h (by rw [hp'.takes]; decide)
        refine SpecP.mono (f8_spec []) ?_
        rintro _ _ ⟨rfl, rfl⟩
        refine And.intro (fun _ => ?_) fun h => by cases h
        exact Exists.intro [] (And.intro rfl rfl)
    rw [if_pos hpl2]
    refine And.intro ⟨trivial, trivial, trivial⟩ (And.intro trivial ?_)
    refine And.intro (fun htk => ?_) fun htk => ?_
    · refine SpecP.mono (f14c_spec t n1 n3 s l hll' []) ?_
      rintro _ _ ⟨⟨h0', _⟩ | ⟨_, d, hd, hcase⟩, rfl⟩
      · exact absurd h0 h0'
      rcases hcase with ⟨hg, rfl⟩ | ⟨hg, p', hp', rfl⟩
      · refine And.intro (fun h => by cases h) fun _ => ?_
        refine SpecP.mono (f11_spec t n1 n3 s l []) ?_
        rintro _ _ ⟨rfl, rfl⟩
        refine And.intro (fun h => absurd h (by simpa using h0)) fun _ => ?_
        refine Exists.intro ((x :: r).map tI) (And.intro take_all.symm.symm (And.intro (Nat.le_of_eq (Nat.zero_add _)) ?_))
        refine SpecP.mono (f15_spec t false M2 _) ?_
        rintro _ _ ⟨rfl, rfl⟩
        refine And.intro trivial (And.intro trivial ?_)
        refine And.intro (fun _ => ?_) fun h => absurd h (by rw [hpl2]; decide)
        refine And.intro (fun h => absurd h (by decide)) fun _ => ?_
        refine Exists.intro ((x :: r).map tI) (And.intro take_all.symm.symm (And.intro (Nat.le_of_eq (Nat.zero_add _)) ?_))
        refine SpecP.mono (f16_spec t n1 false n3 s M2 l ht (plan_in hpl2) hl hMl2 _) ?_
        rintro _ _ ⟨rfl, rfl⟩
        refine And.intro trivial (And.intro trivial ?_)
        refine And.intro (fun _ => ?_) fun h => absurd (htk.symm.trans h) (by decide)
        refine And.intro (fun h => absurd h (by decide)) fun _ => ?_
        refine SpecP.mono (f12_spec t n1 n3 false s l ht hl hll' []) ?_
        rintro _ _ ⟨e, he, _, hve, rfl⟩
        rw [value_max, he.unique hd.est, hg] at hve
        subst hve
        refine And.intro (fun h => by cases h) fun _ => ?_
        refine And.intro (fun h => absurd h (by decide)) fun _ => ?_
        refine And.intro (fun h => absurd h (by decide)) fun _ => ?_
        refine And.intro (fun _ => ?_) fun h => absurd h (by decide)
        refine SpecP.mono (f8_spec []) ?_
        rintro _ _ ⟨rfl, rfl⟩
        refine And.intro (fun _ => ?_) fun h => by cases h
        exact Exists.intro [] (And.intro rfl rfl)
      · refine And.intro (fun _ => ?_) fun h => by cases h
        refine SpecP.mono (f11_spec t n1 n3 s l []) ?_
        rintro _ _ ⟨rfl, rfl⟩
        refine And.intro (fun h => absurd h (by simpa using h0)) fun _ => ?_
        refine Exists.intro ((x :: r).map tI) (And.intro take_all.symm.symm (And.intro (Nat.le_of_eq (Nat.zero_add _)) ?_))
        refine SpecP.mono (f15_spec t false M2 _) ?_
        rintro _ _ ⟨rfl, rfl⟩
        refine And.intro trivial (And.intro trivial ?_)
        refine And.intro (fun _ => ?_) fun h => absurd h (by rw [hpl2]; decide)
        refine And.intro (fun h => absurd h (by decide)) fun _ => ?_
        refine Exists.intro ((x :: r).map tI) (And.intro take_all.symm.symm (And.intro (Nat.le_of_eq (Nat.zero_add _)) ?_))
        refine SpecP.mono (f16_spec t n1 false n3 s M2 l ht (plan_in hpl2) hl hMl2 _) ?_
        rintro _ _ ⟨rfl, rfl⟩
        refine And.intro trivial (And.intro trivial ?_)
        refine And.intro (fun _ => ?_) fun h => absurd (htk.symm.trans h) (by decide)
        refine And.intro (fun h => absurd h (by decide)) fun _ => ?_
        refine SpecP.mono (f12_spec t n1 n3 false s l ht hl hll' []) ?_
        rintro _ _ ⟨e, he, _, hve, rfl⟩
        rw [value_max, he.unique hd.est, hg] at hve
        subst hve
        refine And.intro (fun _ => ?_) fun h => by cases h
        refine And.intro (fun h => absurd h (by decide)) fun _ => ?_
        refine And.intro (fun h => absurd h (by decide)) fun _ => ?_
        refine SpecP.mono (f17_spec t n1 s ht []) ?_
        rintro _ _ ⟨e2, he2, rfl, rfl⟩
        have hde : d.v = e2 := hd.est.unique he2
        rw [← hde]
        refine And.intro (fun _ => ?_) fun h => absurd (of_decide_eq_false h) (by have := hp'.len; rw [List.length_map, List.length_map]; omega)
        refine SpecP.mono (f15_spec t p'.isEmpty p' []) ?_
        rintro _ _ ⟨rfl, rfl⟩
        refine And.intro (fun _ => ?_) fun h => absurd h (by rw [plan_ok ht hp']; decide)
        refine SpecP.mono (f16_spec t n1 p'.isEmpty n3 s p' l ht hp'.acts hl (plan_len ht hp') []) ?_
        rintro _ _ ⟨rfl, rfl⟩
        refine And.intro (fun _ => ?_) fun h => absurd h (by rw [hp'.takes]; decide)
        refine SpecP.mono (f8_spec []) ?_
        rintro _ _ ⟨rfl, rfl⟩
        refine And.intro (fun _ => ?_) fun h => by cases h
        exact Exists.intro [] (And.intro rfl rfl)
    · refine SpecP.mono (f14c_spec t n1 n3 s l hll' []) ?_
      rintro _ _ ⟨⟨h0', _⟩ | ⟨_, d, hd, hcase⟩, rfl⟩
      · exact absurd h0 h0'
      rcases hcase with ⟨hg, rfl⟩ | ⟨hg, p', hp', rfl⟩
      · refine And.intro (fun h => by cases h) fun _ => ?_
        refine SpecP.mono (f11_spec t n1 n3 s l []) ?_
        rintro _ _ ⟨rfl, rfl⟩
        refine And.intro (fun h => absurd h (by simpa using h0)) fun _ => ?_
        refine Exists.intro ((x :: r).map tI) (And.intro take_all.symm.symm (And.intro (Nat.le_of_eq (Nat.zero_add _)) ?_))
        refine SpecP.mono (f15_spec t false M2 _) ?_
        rintro _ _ ⟨rfl, rfl⟩
        refine And.intro trivial (And.intro trivial ?_)
        refine And.intro (fun _ => ?_) fun h => absurd h (by rw [hpl2]; decide)
        refine And.intro (fun h => absurd h (by decide)) fun _ => ?_
        refine Exists.intro ((x :: r).map tI) (And.intro take_all.symm.symm (And.intro (Nat.le_of_eq (Nat.zero_add _)) ?_))
        refine SpecP.mono (f16_spec t n1 false n3 s M2 l ht (plan_in hpl2) hl hMl2 _) ?_
        rintro _ _ ⟨rfl, rfl⟩
        refine And.intro trivial (And.intro trivial ?_)
        refine And.intro (fun h => absurd (htk.symm.trans h) (by decide)) fun _ => ?_
        refine And.intro (fun h => absurd h (by decide)) fun _ => ?_
        refine SpecP.mono (f12_spec t n1 n3 false s l ht hl hll' []) ?_
        rintro _ _ ⟨e, he, _, hve, rfl⟩
        rw [value_max, he.unique hd.est, hg] at hve
        subst hve
        refine And.intro (fun h => by cases h) fun _ => ?_
        refine And.intro (fun h => absurd h (by decide)) fun _ => ?_
        refine And.intro (fun h => absurd h (by decide)) fun _ => ?_
        refine And.intro (fun _ => ?_) fun h => absurd h (by decide)
        refine SpecP.mono (f8_spec []) ?_
        rintro _ _ ⟨rfl, rfl⟩
        refine And.intro (fun _ => ?_) fun h => by cases h
        exact Exists.intro [] (And.intro rfl rfl)
      · refine And.intro (fun _ => ?_) fun h => by cases h
        refine SpecP.mono (f11_spec t n1 n3 s l []) ?_
        rintro _ _ ⟨rfl, rfl⟩
        refine And.intro (fun h => absurd h (by simpa using h0)) fun _ => ?_
        refine Exists.intro ((x :: r).map tI) (And.intro take_all.symm.symm (And.intro (Nat.le_of_eq (Nat.zero_add _)) ?_))
        refine SpecP.mono (f15_spec t false M2 _) ?_
        rintro _ _ ⟨rfl, rfl⟩
        refine And.intro trivial (And.intro trivial ?_)
        refine And.intro (fun _ => ?_) fun h => absurd h (by rw [hpl2]; decide)
        refine And.intro (fun h => absurd h (by decide)) fun _ => ?_
        refine Exists.intro ((x :: r).map tI) (And.intro take_all.symm.symm (And.intro (Nat.le_of_eq (Nat.zero_add _)) ?_))
        refine SpecP.mono (f16_spec t n1 false n3 s M2 l ht (plan_in hpl2) hl hMl2 _) ?_
        rintro _ _ ⟨rfl, rfl⟩
        refine And.intro trivial (And.intro trivial ?_)
        refine And.intro (fun h => absurd (htk.symm.trans h) (by decide)) fun _ => ?_
        refine And.intro (fun h => absurd h (by decide)) fun _ => ?_
        refine SpecP.mono (f12_spec t n1 n3 false s l ht hl hll' []) ?_
        rintro _ _ ⟨e, he, _, hve, rfl⟩
        rw [value_max, he.unique hd.est, hg] at hve
        subst hve
        refine And.intro (fun _ => ?_) fun h => by cases h
        refine And.intro (fun h => absurd h (by decide)) fun _ => ?_
        refine And.intro (fun h => absurd h (by decide)) fun _ => ?_
        refine SpecP.mono (f17_spec t n1 s ht []) ?_
        rintro _ _ ⟨e2, he2, rfl, rfl⟩
        have hde : d.v = e2 := hd.est.unique he2
        rw [← hde]
        refine And.intro (fun _ => ?_) fun h => absurd (of_decide_eq_false h) (by have := hp'.len; rw [List.length_map, List.length_map]; omega)
        refine SpecP.mono (f15_spec t p'.isEmpty p' []) ?_
        rintro _ _ ⟨rfl, rfl⟩
        refine And.intro (fun _ => ?_) fun h => absurd h (by rw [plan_ok ht hp']; decide)
        refine SpecP.mono (f16_spec t n1 p'.isEmpty n3 s p' l ht hp'.acts hl (plan_len ht hp') []) ?_
        rintro _ _ ⟨rfl, rfl⟩
        refine And.intro (fun _ => ?_) fun h => absurd h (by rw [hp'.takes]; decide)
        refine SpecP.mono (f8_spec []) ?_
        rintro _ _ ⟨rfl, rfl⟩
        refine And.intro (fun _ => ?_) fun h => by cases h
        exact Exists.intro [] (And.intro rfl rfl)

end Go.Fw

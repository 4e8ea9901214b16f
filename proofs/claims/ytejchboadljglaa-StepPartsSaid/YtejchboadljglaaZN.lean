/- The laws of steps. -/
import Derived.Test.YtejchboadljglaaZM

/- The laws StepApplies and StepStates answer true. -/
namespace Go.Fw
open Go Go.Proofs
set_option maxRecDepth 10000

theorem f8_spec (t : Task) (b1 : Bool) (s : List Int) (a : Int) (out : List Fr) : SpecP Try.prog 8 [.task t, .ints b1 s, .int a] out fun r ro => r = .bool true ∧ ro = [] := by
  refine spec_body cxs_ok [] [] (fn := Try.f8) (by kernel_rfl) rfl (by kernel_rfl) rfl (by unfold FnOK; kernel_rfl) fun hok => ?_
  refine Exists.intro (tLs [(b1, s)]) (And.intro rfl (And.intro (Nat.le_of_ble_eq_true rfl) ?_))
  refine SpecP.mono (f37_spec t false [(b1, s)] (by simp) _) ?_
  rintro _ _ ⟨few, _, rfl, rfl⟩
  refine And.intro trivial (And.intro trivial ?_)
  refine And.intro (fun _ => ?_) fun _ => ?_
  rotate_left
  · refine SpecP.mono (f38_spec []) ?_
    rintro _ _ ⟨rfl, rfl⟩
    refine And.intro (fun _ => ?_) fun h => Bool.noConfusion h
    exact Exists.intro [] (ret_bool rfl rfl)
  refine SpecP.mono (f39_spec t b1 s a []) ?_
  rintro _ _ ⟨hr, rfl⟩
  cases hr with
  | fault h =>
    refine And.intro (fun h => Bool.noConfusion h) fun _ => ?_
    refine SpecP.mono (f40_spec t b1 s []) ?_
    rintro _ _ ⟨rfl, rfl⟩
    refine And.intro (fun h => absurd h (by simpa using ‹_›)) fun _ => ?_
    refine And.intro (fun _ => ?_) fun h => absurd h (by simpa using ‹_›)
    refine And.intro (fun _ => ?_) fun h => absurd h (by simp)
    refine And.intro (fun _ => ?_) fun h => absurd h (by simp)
    refine SpecP.mono (f38_spec []) ?_
    rintro _ _ ⟨rfl, rfl⟩
    refine And.intro (fun _ => ?_) fun h => Bool.noConfusion h
    exact Exists.intro [] (ret_bool rfl rfl)
  | arg h h2 =>
    refine And.intro (fun h => Bool.noConfusion h) fun _ => ?_
    refine SpecP.mono (f40_spec t b1 s []) ?_
    rintro _ _ ⟨rfl, rfl⟩
    rw [h]
    refine And.intro (fun _ => ?_) fun h => absurd h (by simp)
    refine And.intro (fun h3 => ?_) fun h3 => ?_
    rotate_left
    · have h3 := of_decide_eq_false h3
      refine And.intro (fun _ => ?_) fun h => absurd h (by simp; omega)
      refine And.intro (fun _ => ?_) fun h => absurd h (by simp)
      refine And.intro (fun _ => ?_) fun h => absurd h (by simp)
      refine And.intro (fun _ => ?_) fun h => absurd h (by simp)
      refine SpecP.mono (f38_spec []) ?_
      rintro _ _ ⟨rfl, rfl⟩
      refine And.intro (fun _ => ?_) fun h => Bool.noConfusion h
      exact Exists.intro [] (ret_bool rfl rfl)
    refine And.intro (fun _ => ?_) fun h => absurd h (by simp)
    refine And.intro (fun _ => ?_) fun h => absurd h (by simp)
    refine And.intro (fun _ => ?_) fun h => absurd h (by simp)
    refine SpecP.mono (f38_spec []) ?_
    rintro _ _ ⟨rfl, rfl⟩
    refine And.intro (fun _ => ?_) fun h => Bool.noConfusion h
    exact Exists.intro [] (ret_bool rfl rfl)
  | no h k hk h2 h3 =>
    subst hk
    refine And.intro (fun h => Bool.noConfusion h) fun _ => ?_
    refine SpecP.mono (f40_spec t b1 s []) ?_
    rintro _ _ ⟨rfl, rfl⟩
    rw [h]
    refine And.intro (fun _ => ?_) fun h => absurd h (by simp)
    refine And.intro (fun h => absurd h (by simp)) fun _ => ?_
    refine And.intro (fun h => absurd h (by simp; omega)) fun _ => ?_
    refine And.intro (fun h => absurd h (by simp)) fun _ => ?_
    refine And.intro (by omega) (Exists.intro _ (And.intro (get_map h2) ?_))
    refine SpecP.mono (f25_spec b1 t.acts[k].pn s t.acts[k].pre []) ?_
    rintro _ _ ⟨rfl, rfl⟩
    refine And.intro (fun h4 => absurd h4 (by simp [h3])) fun _ => ?_
    refine And.intro (fun _ => ?_) fun h => absurd h (by simp)
    refine And.intro (fun _ => ?_) fun h => absurd h (by simp)
    refine SpecP.mono (f38_spec []) ?_
    rintro _ _ ⟨rfl, rfl⟩
    refine And.intro (fun _ => ?_) fun h => Bool.noConfusion h
    exact Exists.intro [] (ret_bool rfl rfl)
  | yes h k hk h2 h3 =>
    subst hk
    refine And.intro (fun _ => ?_) fun h => Bool.noConfusion h
    obtain ⟨ht, hs⟩ := hts_of h
    have TK := task_ok ht
    refine SpecP.mono (f40_spec t b1 s []) ?_
    rintro _ _ ⟨rfl, rfl⟩
    rw [h]
    refine And.intro (fun _ => ?_) fun h => absurd h (by simp)
    refine And.intro (fun h => absurd h (by simp)) fun _ => ?_
    refine And.intro (fun h => absurd h (by simp; omega)) fun _ => ?_
    refine And.intro (fun h => absurd h (by simp)) fun _ => ?_
    refine And.intro (by omega) (Exists.intro _ (And.intro (get_map h2) ?_))
    refine SpecP.mono (f25_spec b1 t.acts[k].pn s t.acts[k].pre []) ?_
    rintro _ _ ⟨rfl, rfl⟩
    refine And.intro (fun _ => ?_) fun h4 => absurd h4 (by simp [h3])
    refine And.intro (fun _ => ?_) fun h => absurd h (by simp)
    refine SpecP.mono (f41_spec t b1 s k TK (rising_in hs) h2 []) ?_
    rintro _ _ ⟨rfl, rfl⟩
    generalize afterL t.facts.length s t.acts[k].effs = L
    refine SpecP.conv (conv_second fun _ _ _ _ => sT_vl) (SpecP.mono (f20_spec L.isEmpty L.isEmpty L L []) ?_)
    rintro _ _ ⟨rfl, rfl⟩
    refine And.intro (fun _ => ?_) fun h => absurd h (by simp)
    refine SpecP.mono (f38_spec []) ?_
    rintro _ _ ⟨rfl, rfl⟩
    refine And.intro (fun _ => ?_) fun h => Bool.noConfusion h
    exact Exists.intro [] (ret_bool rfl rfl)


end Go.Fw

/- The law StepStates answers true. -/
namespace Go.Fw
open Go Go.Proofs
set_option maxRecDepth 10000

theorem fine_cases (t : Task) (s : List Int) : fineI t s = 10 ∨ fineI t s = 20 ∨ fineI t s = 0 := by
  unfold fineI; split
  · split
    · exact .inr (.inr rfl)
    · exact .inr (.inl rfl)
  · exact .inl rfl
theorem f49_10 {t : Task} {s : List Int} (h : fineI t s = 10) (n1 : Bool) (out : List Fr) : SpecP Try.prog 49 [.task t, .ints n1 s] out fun r ro => r = .tup [.bool false, .int 10] ∧ ro = [] :=
  (f49_spec t n1 s out).mono (by rintro _ _ ⟨rfl, rfl⟩; rw [h]; exact ⟨rfl, rfl⟩)
theorem f49_20 {t : Task} {s : List Int} (h : fineI t s = 20) (n1 : Bool) (out : List Fr) : SpecP Try.prog 49 [.task t, .ints n1 s] out fun r ro => r = .tup [.bool false, .int 0] ∧ ro = [] :=
  (f49_spec t n1 s out).mono (by rintro _ _ ⟨rfl, rfl⟩; rw [h]; exact ⟨rfl, rfl⟩)
theorem f49_0 {t : Task} {s : List Int} (h : fineI t s = 0) (n1 : Bool) (out : List Fr) : SpecP Try.prog 49 [.task t, .ints n1 s] out fun r ro => r = .tup [.bool true, .int 0] ∧ ro = [] :=
  (f49_spec t n1 s out).mono (by rintro _ _ ⟨rfl, rfl⟩; rw [h]; exact ⟨rfl, rfl⟩)
theorem f50_no {t : Task} {s : List Int} (h : fineI t s ≠ 0) (n1 n2 : Bool) (l : List Lit) (out : List Fr) : SpecP Try.prog 50 [.task t, .ints n1 s, .lits n2 l] out fun r ro => r = .tup [.bool false, .int (fineI t s)] ∧ ro = [] :=
  (f50_spec t n1 n2 s l out).mono (by rintro _ _ ⟨rfl, rfl⟩; rw [if_neg h, show (fineI t s == 0) = false by simpa using h]; exact ⟨rfl, rfl⟩)
theorem f50_arg {t : Task} {s : List Int} {l : List Lit} (h : fineI t s = 0) (h2 : condB l t.facts.length = false) (n1 n2 : Bool) (out : List Fr) : SpecP Try.prog 50 [.task t, .ints n1 s, .lits n2 l] out fun r ro => r = .tup [.bool false, .int 1] ∧ ro = [] :=
  (f50_spec t n1 n2 s l out).mono (by rintro _ _ ⟨rfl, rfl⟩; rw [h, h2]; exact ⟨rfl, rfl⟩)
theorem f50_yes {t : Task} {s : List Int} {l : List Lit} (h : fineI t s = 0) (h2 : condB l t.facts.length = true) (n1 n2 : Bool) (out : List Fr) : SpecP Try.prog 50 [.task t, .ints n1 s, .lits n2 l] out fun r ro => r = .tup [.bool (holdsB s l), .int 0] ∧ ro = [] :=
  (f50_spec t n1 n2 s l out).mono (by rintro _ _ ⟨rfl, rfl⟩; rw [h, h2]; exact ⟨rfl, rfl⟩)
theorem f47_no {t : Task} {s : List Int} (h : fineI t s ≠ 0) (n1 : Bool) (out : List Fr) : SpecP Try.prog 47 [.task t, .ints n1 s] out fun r ro => r = .tup [nilV, .int (fineI t s)] ∧ ro = [] :=
  (f47_spec t n1 s out).mono (by
    rintro _ _ ⟨⟨_, rfl⟩ | ⟨h0, _⟩, rfl⟩
    · exact ⟨rfl, rfl⟩
    · exact absurd h0 h)
theorem f47_yes {t : Task} {s : List Int} (h : fineI t s = 0) (n1 : Bool) (out : List Fr) : SpecP Try.prog 47 [.task t, .ints n1 s] out fun r ro => r = .tup [.ints ((appl t s).map tI).isEmpty (appl t s), .int 0] ∧ ro = [] :=
  (f47_spec t n1 s out).mono (by
    rintro _ _ ⟨⟨h0, _⟩ | ⟨_, rfl⟩, rfl⟩
    · exact absurd h h0
    · exact ⟨rfl, rfl⟩)

theorem f12_spec (t : Task) (b1 : Bool) (s : List Int) (b2 : Bool) (l : List Lit) (out : List Fr) : SpecP Try.prog 12 [.task t, .ints b1 s, .lits b2 l] out fun r ro => r = .bool true ∧ ro = [] := by
  refine spec_body cxs_ok [] [] (fn := Try.f12) (by kernel_rfl) rfl (by kernel_rfl) rfl (by unfold FnOK; kernel_rfl) fun hok => ?_
  refine Exists.intro (tLs [(b1, s)]) (And.intro rfl (And.intro (Nat.le_of_ble_eq_true rfl) ?_))
  refine SpecP.mono (f37_spec t false [(b1, s)] (by simp) _) ?_
  rintro _ _ ⟨few, _, rfl, rfl⟩
  refine And.intro trivial (And.intro trivial ?_)
  refine And.intro (fun _ => ?_) fun _ => ?_
  rotate_left
  · refine SpecP.mono (f38_spec []) ?_
    rintro _ _ ⟨rfl, rfl⟩
    refine And.intro (fun _ => ?_) fun h => Bool.noConfusion h
    exact Exists.intro [] (ret_bool rfl rfl)
  refine And.intro (fun _ => ?_) fun _ => ?_
  · refine SpecP.mono (f38_spec []) ?_
    rintro _ _ ⟨rfl, rfl⟩
    refine And.intro (fun _ => ?_) fun h => Bool.noConfusion h
    exact Exists.intro [] (ret_bool rfl rfl)
  rcases fine_cases t s with h | h | h
  · have hn : fineI t s ≠ 0 := by rw [h]; decide
    refine SpecP.mono (f49_10 h b1 []) ?_
    rintro _ _ ⟨rfl, rfl⟩
    refine And.intro (fun h => Bool.noConfusion h) fun _ => ?_
    refine SpecP.mono (f50_no hn b1 b2 l []) ?_
    rintro _ _ ⟨rfl, rfl⟩
    refine And.intro (fun h => Bool.noConfusion h) fun _ => ?_
    refine SpecP.mono (f47_no hn b1 []) ?_
    rintro _ _ ⟨rfl, rfl⟩
    refine SpecP.mono (f40_spec t b1 s []) ?_
    rintro _ _ ⟨rfl, rfl⟩
    rw [h]
    refine And.intro (fun _ => ?_) fun h => absurd h (by simp)
    refine And.intro (fun _ => ?_) fun h => absurd h (by simp)
    refine And.intro (fun _ => ?_) fun h => absurd h (by simp)
    refine And.intro (fun _ => ?_) fun h => absurd h (by simp)
    refine And.intro (fun _ => ?_) fun h => absurd h (by simp)
    refine SpecP.mono (f38_spec []) ?_
    rintro _ _ ⟨rfl, rfl⟩
    refine And.intro (fun _ => ?_) fun h => Bool.noConfusion h
    exact Exists.intro [] (ret_bool rfl rfl)
  · have hn : fineI t s ≠ 0 := by rw [h]; decide
    refine SpecP.mono (f49_20 h b1 []) ?_
    rintro _ _ ⟨rfl, rfl⟩
    refine And.intro (fun h => Bool.noConfusion h) fun _ => ?_
    refine SpecP.mono (f50_no hn b1 b2 l []) ?_
    rintro _ _ ⟨rfl, rfl⟩
    refine And.intro (fun h => Bool.noConfusion h) fun _ => ?_
    refine SpecP.mono (f47_no hn b1 []) ?_
    rintro _ _ ⟨rfl, rfl⟩
    refine SpecP.mono (f40_spec t b1 s []) ?_
    rintro _ _ ⟨rfl, rfl⟩
    rw [h]
    refine And.intro (fun h => absurd h (by simp)) fun _ => ?_
    refine And.intro (fun h => absurd h (by simp)) fun _ => ?_
    refine And.intro (fun h => absurd h (by simp)) fun _ => ?_
    refine And.intro (fun h => absurd h (by simp)) fun _ => ?_
    refine And.intro (fun _ => ?_) fun h => absurd h (by simp)
    refine And.intro (fun _ => ?_) fun h => absurd h (by simp)
    refine And.intro (fun _ => ?_) fun h => absurd h (by simp)
    refine And.intro (fun _ => ?_) fun h => absurd h (by simp)
    refine SpecP.mono (f38_spec []) ?_
    rintro _ _ ⟨rfl, rfl⟩
    refine And.intro (fun _ => ?_) fun h => Bool.noConfusion h
    exact Exists.intro [] (ret_bool rfl rfl)
  · obtain ⟨ht, hs⟩ := hts_of h
    have TK := task_ok ht
    cases h2 : condB l t.facts.length with
    | false =>
      refine SpecP.mono (f49_0 h b1 []) ?_
      rintro _ _ ⟨rfl, rfl⟩
      refine And.intro (fun _ => ?_) fun h => Bool.noConfusion h
      refine SpecP.mono (f50_arg h h2 b1 b2 []) ?_
      rintro _ _ ⟨rfl, rfl⟩
      refine And.intro (fun h => Bool.noConfusion h) fun _ => ?_
      refine SpecP.mono (f47_yes h b1 []) ?_
      rintro _ _ ⟨rfl, rfl⟩
      refine SpecP.mono (f40_spec t b1 s []) ?_
      rintro _ _ ⟨rfl, rfl⟩
      rw [h]
      refine And.intro (fun h => absurd h (by simp)) fun _ => ?_
      refine And.intro (fun h => absurd h (by simp)) fun _ => ?_
      refine And.intro (fun _ => ?_) fun h => absurd h (by simp)
      refine And.intro (fun h => absurd h (by simp)) fun _ => ?_
      refine And.intro (fun h => absurd h (by simp)) fun _ => ?_
      refine And.intro (fun h => absurd h (by simp)) fun _ => ?_
      refine SpecP.mono (f51_spec t b1 s TK.acts []) ?_
      rintro _ _ ⟨rfl, rfl⟩
      refine SpecP.mono (f20_spec _ _ (appl t s) (appl t s) []) ?_
      rintro _ _ ⟨rfl, rfl⟩
      refine And.intro (fun _ => ?_) fun h => absurd h (by simp)
      refine SpecP.mono (f52_spec b2 l (t.facts.map tS).length []) ?_
      rintro _ _ ⟨rfl, rfl⟩
      rw [show (t.facts.map tS).length = t.facts.length from List.length_map .., h2]
      refine And.intro (fun h => Bool.noConfusion h) fun _ => ?_
      refine And.intro (fun _ => ?_) fun h => absurd h (by simp)
      refine SpecP.mono (f38_spec []) ?_
      rintro _ _ ⟨rfl, rfl⟩
      refine And.intro (fun _ => ?_) fun h => Bool.noConfusion h
      exact Exists.intro [] (ret_bool rfl rfl)
    | true =>
      refine SpecP.mono (f49_0 h b1 []) ?_
      rintro _ _ ⟨rfl, rfl⟩
      refine And.intro (fun _ => ?_) fun h => Bool.noConfusion h
      refine SpecP.mono (f50_yes h h2 b1 b2 []) ?_
      rintro _ _ ⟨rfl, rfl⟩
      refine And.intro (fun h3 => ?_) fun h3 => ?_
      all_goals
        refine SpecP.mono (f47_yes h b1 []) ?_
        rintro _ _ ⟨rfl, rfl⟩
        refine SpecP.mono (f40_spec t b1 s []) ?_
        rintro _ _ ⟨rfl, rfl⟩
        rw [h]
        refine And.intro (fun h => absurd h (by simp)) fun _ => ?_
        refine And.intro (fun h => absurd h (by simp)) fun _ => ?_
        refine And.intro (fun _ => ?_) fun h => absurd h (by simp)
        refine And.intro (fun h => absurd h (by simp)) fun _ => ?_
        refine And.intro (fun h => absurd h (by simp)) fun _ => ?_
        refine And.intro (fun h => absurd h (by simp)) fun _ => ?_
        refine SpecP.mono (f51_spec t b1 s TK.acts []) ?_
        rintro _ _ ⟨rfl, rfl⟩
        refine SpecP.mono (f20_spec _ _ (appl t s) (appl t s) []) ?_
        rintro _ _ ⟨rfl, rfl⟩
        refine And.intro (fun _ => ?_) fun h => absurd h (by simp)
        refine SpecP.mono (f52_spec b2 l (t.facts.map tS).length []) ?_
        rintro _ _ ⟨rfl, rfl⟩
        rw [show (t.facts.map tS).length = t.facts.length from List.length_map .., h2]
        refine And.intro (fun _ => ?_) fun h => Bool.noConfusion h
        refine And.intro (fun _ => ?_) fun h => absurd h (by simp)
        refine SpecP.mono (f25_spec b1 b2 s l []) ?_
        rintro _ _ ⟨rfl, rfl⟩
        rw [h3]
        refine And.intro (fun h4 => ?_) fun h4 => ?_
        all_goals
            first
                  | exact Bool.noConfusion h4
                  | (refine And.intro (fun _ => ?_) fun h => absurd h (by simp)
                     refine SpecP.mono (f38_spec []) ?_
                     rintro _ _ ⟨rfl, rfl⟩
                     refine And.intro (fun _ => ?_) fun h => Bool.noConfusion h
                     exact Exists.intro [] (ret_bool rfl rfl))

end Go.Fw

/- The law StepExecutes answers true. -/
namespace Go.Fw
open Go Go.Proofs
set_option maxRecDepth 10000

theorem fine10 {t : Task} {s : List Int} (h : fineI t s = 10) : isB t = false := by
  unfold fineI at h
  cases h1 : isB t with
  | false => rfl
  | true => rw [h1, if_pos rfl] at h; split at h <;> exact absurd h (by decide)
theorem fine20 {t : Task} {s : List Int} (h : fineI t s = 20) : isB t = true := by
  unfold fineI at h
  cases h1 : isB t with
  | true => rfl
  | false => rw [h1] at h; simp at h
section
variable {t : Task} {n1 n2 : Bool} {s p : List Int} {out : List Fr}
theorem f42_fault (h : fineI t s ≠ 0) : SpecP Try.prog 42 [.task t, .ints n1 s, .ints n2 p] out fun r ro => r = .tup [.agg [nilV, .int 0, .bool false], .int 0, .int (fineI t s)] ∧ ro = [] :=
  (f42_spec t n1 n2 s p out).mono (by
    rintro r ro ⟨hr, rfl⟩
    cases hr with
    | fault _ => exact ⟨rfl, rfl⟩
    | arg h0 _ => exact absurd h0 h
    | ran h0 _ _ _ _ => exact absurd h0 h)
theorem f42_arg (h : fineI t s = 0) (hp : planB t p = false) : SpecP Try.prog 42 [.task t, .ints n1 s, .ints n2 p] out fun r ro => r = .tup [.agg [nilV, .int 0, .bool false], .int 0, .int 1] ∧ ro = [] :=
  (f42_spec t n1 n2 s p out).mono (by
    rintro r ro ⟨hr, rfl⟩
    cases hr with
    | fault h0 => exact absurd h h0
    | arg _ _ => exact ⟨rfl, rfl⟩
    | ran _ h0 _ _ _ => rw [hp] at h0; cases h0)
theorem f42_ran (h : fineI t s = 0) (hp : planB t p = true) : SpecP Try.prog 42 [.task t, .ints n1 s, .ints n2 p] out fun r ro => ∃ (k : Nat) (at_ : Int), Ran t s p k at_ ∧ r = .tup [runV n1 t s p k, .int at_, .int 0] ∧ ro = [] :=
  (f42_spec t n1 n2 s p out).mono (by
    rintro r ro ⟨hr, rfl⟩
    cases hr with
    | fault h0 => exact absurd h h0
    | arg _ h0 => rw [hp] at h0; cases h0
    | ran _ _ k at_ hr => exact ⟨k, at_, hr, rfl, rfl⟩)
theorem f43_fault (h : isB t = false) : SpecP Try.prog 43 [.task t, .ints n2 p] out fun r ro => r = .tup [.int 0, .bool false, .int 10] ∧ ro = [] :=
  (f43_spec t n2 p out).mono (by
    rintro r ro ⟨hr, rfl⟩
    cases hr with
    | fault _ => exact ⟨rfl, rfl⟩
    | arg h0 _ | no h0 _ _ | yes h0 _ _ => rw [h] at h0; cases h0)
theorem f43_arg (h : isB t = true) (hp : planB t p = false) : SpecP Try.prog 43 [.task t, .ints n2 p] out fun r ro => r = .tup [.int 0, .bool false, .int 1] ∧ ro = [] :=
  (f43_spec t n2 p out).mono (by
    rintro r ro ⟨hr, rfl⟩
    cases hr with
    | fault h0 => rw [h] at h0; cases h0
    | arg _ _ => exact ⟨rfl, rfl⟩
    | no _ h0 _ | yes _ h0 _ => rw [hp] at h0; cases h0)
theorem f43_no (h : isB t = true) (hp : planB t p = true) (hv : ¬ Valid t t.init p) : SpecP Try.prog 43 [.task t, .ints n2 p] out fun r ro => r = .tup [.int 0, .bool false, .int 0] ∧ ro = [] :=
  (f43_spec t n2 p out).mono (by
    rintro r ro ⟨hr, rfl⟩
    cases hr with
    | fault h0 => rw [h] at h0; cases h0
    | arg _ h0 => rw [hp] at h0; cases h0
    | no _ _ _ => exact ⟨rfl, rfl⟩
    | yes _ _ h0 => exact absurd h0 hv)
theorem f43_yes (h : isB t = true) (hp : planB t p = true) (hv : Valid t t.init p) : SpecP Try.prog 43 [.task t, .ints n2 p] out fun r ro => r = .tup [.int (costAt t p p.length), .bool true, .int 0] ∧ ro = [] :=
  (f43_spec t n2 p out).mono (by
    rintro r ro ⟨hr, rfl⟩
    cases hr with
    | fault h0 => rw [h] at h0; cases h0
    | arg _ h0 => rw [hp] at h0; cases h0
    | no _ _ h0 => exact absurd hv h0
    | yes _ _ _ => exact ⟨rfl, rfl⟩)
theorem f22_no (TK : TaskOK t) (hs : risingB s t.facts.length = true) (hv : ¬ Valid t s p) : SpecP Try.prog 22 [.task t, .ints n1 s, .ints n2 p] out fun r ro => r = .tup [.int 0, .bool false] ∧ ro = [] :=
  (f22_spec t n1 n2 s p TK hs out).mono (by
    rintro r ro (⟨_, h⟩ | ⟨h, _⟩)
    · exact h
    · exact absurd h hv)
theorem f22_yes (TK : TaskOK t) (hs : risingB s t.facts.length = true) (hv : Valid t s p) : SpecP Try.prog 22 [.task t, .ints n1 s, .ints n2 p] out fun r ro => r = .tup [.int (costAt t p p.length), .bool true] ∧ ro = [] :=
  (f22_spec t n1 n2 s p TK hs out).mono (by
    rintro r ro (⟨h, _⟩ | ⟨_, h⟩)
    · exact absurd hv h
    · exact h)
theorem f23c_spec (TK : TaskOK t) (hs : risingB s t.facts.length = true) (hp : planB t p = true) {k : Nat} {at_ : Int} (hr : Ran t s p k at_) :
    SpecP Try.prog 23 [.task t, .ints n1 s, .ints n2 p] out fun r ro => r = .tup [.t (.sl false 1 (stRows t s p k)), .int (costAt t p k), .int at_] ∧ ro = [] :=
  (f23_spec t n1 n2 s p TK hs hp out).close fun r ro h => by
    obtain ⟨k', at', hk, hok, hor, rfl, rfl⟩ := h
    obtain ⟨rfl, rfl⟩ := ran_eq hr ⟨hk, hok, hor⟩
    refine ⟨_, .triple _ _ _ _ _ _ (.row 112 23 1 0 _ (stRows t s p k) rfl (by simp)) (.same _) (.same _), ?_, rfl⟩
    rw [← take_all]; rfl
end
theorem ran_len {t : Task} {s p : List Int} {k : Nat} {at_ : Int} (hp : planB t p = true) (hr : Ran t s p k at_) : k ≤ 10000 := by
  have := hr.le
  simp only [planB, Bool.and_eq_true, decide_eq_true_eq] at hp
  omega
/-- A nil list of numbers, however it is told. -/
theorem nilc (β : K → Nat) (RO : Nat → Prop) (w : World) (v : Value) (h : VL β RO w (.t (.sl true 0 [])) v) : VL β RO w (.ints true []) v := nil_sz _ _ _ _ h
def od9 : Od := [(26, [(0, .pure), (1, .pure), (2, .pure), (3, .pure), (4, .pure), (5, .pure), (6, .pure), (7, .pure), (8, .pure), (9, .pure), (10, .pure), (11, .pure), (12, .pure), (13, .pure), (14, .pure), (15, .pure), (16, .pure), (17, .pure), (18, .pure), (19, .pure), (20, .pure), (21, .pure), (22, .pure), (23, .pure), (24, .pure), (25, .pure), (26, .pure), (27, .pure), (28, .pure), (29, .pure), (30, .pure), (31, .pure), (32, .eff), (33, .pure), (34, .pure)])]
def kp9 : Kp := [(5, ([1, 2, 4, 9, 35, 36], [32, 320])), (29, ([10, 192, 193, 194], [80]))]

set_option maxHeartbeats 1000000 in
theorem f9_spec (t : Task) (b1 : Bool) (s : List Int) (b2 : Bool) (p : List Int) (n : Int) (hn : 0 ≤ n ∧ n ≤ 255) (out : List Fr) : SpecP Try.prog 9 [.task t, .ints b1 s, .ints b2 p, .t (.v (.int .u8 n))] out fun r ro => r = .bool true ∧ ro = [] := by
  refine spec_body cxs_ok kp9 od9 (fn := Try.f9) (by kernel_rfl) rfl (by kernel_rfl) rfl (by unfold FnOK; kernel_rfl) fun hok => ?_
  refine Exists.intro (tLs [(b1, s), (b2, p)]) (And.intro rfl (And.intro (Nat.le_of_ble_eq_true rfl) ?_))
  refine SpecP.mono (f37_spec t false [(b1, s), (b2, p)] (by simp) _) ?_
  rintro _ _ ⟨few, hfew, rfl, rfl⟩
  refine And.intro trivial (And.intro trivial ?_)
  refine And.intro (fun hf => ?_) fun _ => ?_
  rotate_left
  · refine SpecP.mono (f38_spec []) ?_
    rintro _ _ ⟨rfl, rfl⟩
    refine And.intro (fun _ => ?_) fun h => Bool.noConfusion h
    exact Exists.intro [] (ret_bool rfl rfl)
  have hpl : p.length ≤ 400 := hfew hf (b2, p) (by simp)
  refine And.intro (by omega) (And.intro (by omega) ?_)
  refine And.intro (by decide) ?_
  have hm2 : n.tmod 50 ≤ 49 ∧ 0 ≤ n.tmod 50 := by
    rw [Int.tmod_eq_emod_of_nonneg hn.1]; omega
  refine And.intro (by omega) (And.intro (by omega) ?_)
  refine LoopW.mk (Nat × List Int) (fun u => u.1 ≤ 50 ∧ u.2.length ≤ 400 * u.1) (fun u => [(1, .ints b1 s), (2, .ints b2 p), (4, .ptr (.cur 32) 0), (9, accV 320 1 (u.2.map tI)), (35, .int (1 + n.tmod 50)), (36, .int u.1)])
    (fun u => ⟨out, (32, .box (cellsTask t)) :: accO 320 3 1 (u.2.map tI)⟩) (fun u => 50 - u.1) (0, []) ⟨by simp, by simp⟩ ⟨rfl, rfl⟩ ?_
  rintro ⟨i, L⟩ ⟨hi0, hL⟩
  simp only at hi0 hL
  rcases L with _ | ⟨x, r⟩
  · refine And.intro (fun h1 => ?_) fun h1 => ?_
    · have h1 := of_decide_eq_true h1
      cases p with
      | nil =>
        refine And.intro (by omega) (And.intro (by omega) ?_)
        exact Exists.intro (i + 1, []) (And.intro (by show 50 - (i + 1) < 50 - i; omega) (And.intro ⟨by omega, by simp⟩ (And.intro rfl rfl)))
      | cons y q =>
        have hq : (tI y :: q.map tI).length ≤ 400 := by simpa using hpl
        refine And.intro (by show (tI y :: q.map tI).length * 8 ≤ _; omega) (And.intro (by show (tI y :: q.map tI).length ≤ _; omega) ?_)
        refine And.intro (by omega) (And.intro (by omega) ?_)
        exact Exists.intro (i + 1, y :: q) (And.intro (by show 50 - (i + 1) < 50 - i; omega) (And.intro ⟨by omega, by show (y :: q).length ≤ 400 * (i + 1); omega⟩ (And.intro rfl rfl)))
    clear h1 hL hi0
    rcases fine_cases t s with h | h | h
    · have hn : fineI t s ≠ 0 := by rw [h]; decide
      have hb := fine10 h
      refine SpecP.mono (SpecP.conv (conv_third nilc) (f42_fault (p := []) (n2 := true) hn)) ?_
      rintro _ _ ⟨rfl, rfl⟩
      refine SpecP.mono (SpecP.conv (conv_second nilc) (f43_fault (p := []) (n2 := true) hb)) ?_
      rintro _ _ ⟨rfl, rfl⟩
      refine And.intro (fun h => Bool.noConfusion h) fun _ => ?_
      refine SpecP.mono (f40_spec t b1 s []) ?_
      rintro _ _ ⟨rfl, rfl⟩
      rw [h]
      refine And.intro (fun _ => ?_) fun h => absurd h (by simp)
      refine And.intro (fun _ => ?_) fun h => absurd h (by simp)
      refine And.intro (fun _ => ?_) fun h => absurd h (by simp)
      refine And.intro (fun _ => ?_) fun h => absurd h (by simp)
      refine And.intro (fun _ => ?_) fun h => absurd h (by simp)
      refine And.intro (fun _ => ?_) fun h => absurd h (by simp)
      refine SpecP.mono (f38_spec []) ?_
      rintro _ _ ⟨rfl, rfl⟩
      refine And.intro (fun _ => ?_) fun h => Bool.noConfusion h
      exact Exists.intro [] (ret_bool rfl rfl)
    · have hn : fineI t s ≠ 0 := by rw [h]; decide
      have hb := fine20 h
      have TK := task_ok hb
      cases hp : planB t [] with
      | false =>
        refine SpecP.mono (SpecP.conv (conv_third nilc) (f42_fault (p := []) (n2 := true) hn)) ?_
        rintro _ _ ⟨rfl, rfl⟩
        refine SpecP.mono (SpecP.conv (conv_second nilc) (f43_arg (p := []) (n2 := true) hb hp)) ?_
        rintro _ _ ⟨rfl, rfl⟩
        refine And.intro (fun h => Bool.noConfusion h) fun _ => ?_
        refine SpecP.mono (f40_spec t b1 s []) ?_
        rintro _ _ ⟨rfl, rfl⟩
        rw [h]
        refine And.intro (fun h => absurd h (by simp)) fun _ => ?_
        refine SpecP.mono (SpecP.conv (conv_second nilc) (f44_spec t true [] [])) ?_
        rintro _ _ ⟨rfl, rfl⟩
        rw [hp]
        refine And.intro (fun h => Bool.noConfusion h) fun _ => ?_
        refine And.intro (fun h => absurd h (by simp)) fun _ => ?_
        refine And.intro (fun h => absurd h (by simp)) fun _ => ?_
        refine And.intro (fun h => absurd h (by simp)) fun _ => ?_
        refine And.intro (fun h => absurd h (by simp)) fun _ => ?_
        refine And.intro (fun h => absurd h (by simp)) fun _ => ?_
        refine And.intro (fun _ => ?_) fun h => absurd h (by simp)
        refine And.intro (fun _ => ?_) fun h => absurd h (by simp)
        refine And.intro (fun _ => ?_) fun h => absurd h (by simp)
        refine And.intro (fun _ => ?_) fun h => absurd h (by simp)
        refine And.intro (fun _ => ?_) fun h => absurd h (by simp)
        refine And.intro (fun h => Bool.noConfusion h) fun _ => ?_
        refine SpecP.mono (f38_spec []) ?_
        rintro _ _ ⟨rfl, rfl⟩
        refine And.intro (fun _ => ?_) fun h => Bool.noConfusion h
        exact Exists.intro [] (ret_bool rfl rfl)
      | true =>
        by_cases hv : Valid t t.init []
        · refine SpecP.mono (SpecP.conv (conv_third nilc) (f42_fault (p := []) (n2 := true) hn)) ?_
          rintro _ _ ⟨rfl, rfl⟩
          refine SpecP.mono (SpecP.conv (conv_second nilc) (f43_yes (p := []) (n2 := true) hb hp hv)) ?_
          rintro _ _ ⟨rfl, rfl⟩
          refine And.intro (fun _ => ?_) fun h => Bool.noConfusion h
          refine SpecP.mono (f40_spec t b1 s []) ?_
          rintro _ _ ⟨rfl, rfl⟩
          rw [h]
          refine And.intro (fun h => absurd h (by simp)) fun _ => ?_
          refine SpecP.mono (SpecP.conv (conv_second nilc) (f44_spec t true [] [])) ?_
          rintro _ _ ⟨rfl, rfl⟩
          rw [hp]
          refine And.intro (fun _ => ?_) fun h => Bool.noConfusion h
          refine And.intro (fun _ => ?_) fun h => absurd h (by simp)
          refine SpecP.mono (SpecP.conv (conv_third nilc) (f22_yes (n1 := t.ni) (n2 := true) TK (init_rising hb) hv)) ?_
          rintro _ _ ⟨rfl, rfl⟩
          refine And.intro (fun _ => ?_) fun h => Bool.noConfusion h
          refine And.intro (fun h => absurd h (by simp)) fun _ => ?_
          refine And.intro (fun h => absurd h (by simp)) fun _ => ?_
          refine And.intro (fun h => absurd h (by simp)) fun _ => ?_
          refine And.intro (fun h => absurd h (by simp)) fun _ => ?_
          refine And.intro (fun _ => ?_) fun h => absurd h (by simp)
          refine And.intro (fun _ => ?_) fun h => absurd h (by simp)
          refine And.intro (fun _ => ?_) fun h => absurd h (by simp)
          refine And.intro (fun _ => ?_) fun h => absurd h (by simp)
          refine And.intro (fun _ => ?_) fun h => absurd h (by simp)
          refine And.intro (fun h => Bool.noConfusion h) fun _ => ?_
          refine SpecP.mono (f38_spec []) ?_
          rintro _ _ ⟨rfl, rfl⟩
          refine And.intro (fun _ => ?_) fun h => Bool.noConfusion h
          exact Exists.intro [] (ret_bool rfl rfl)
        · refine SpecP.mono (SpecP.conv (conv_third nilc) (f42_fault (p := []) (n2 := true) hn)) ?_
          rintro _ _ ⟨rfl, rfl⟩
          refine SpecP.mono (SpecP.conv (conv_second nilc) (f43_no (p := []) (n2 := true) hb hp hv)) ?_
          rintro _ _ ⟨rfl, rfl⟩
          refine And.intro (fun h => Bool.noConfusion h) fun _ => ?_
          refine SpecP.mono (f40_spec t b1 s []) ?_
          rintro _ _ ⟨rfl, rfl⟩
          rw [h]
          refine And.intro (fun h => absurd h (by simp)) fun _ => ?_
          refine SpecP.mono (SpecP.conv (conv_second nilc) (f44_spec t true [] [])) ?_
          rintro _ _ ⟨rfl, rfl⟩
          rw [hp]
          refine And.intro (fun _ => ?_) fun h => Bool.noConfusion h
          refine And.intro (fun _ => ?_) fun h => absurd h (by simp)
          refine SpecP.mono (SpecP.conv (conv_third nilc) (f22_no (n1 := t.ni) (n2 := true) TK (init_rising hb) hv)) ?_
          rintro _ _ ⟨rfl, rfl⟩
          refine And.intro (fun h => Bool.noConfusion h) fun _ => ?_
          refine And.intro (fun h => absurd h (by simp)) fun _ => ?_
          refine And.intro (fun h => absurd h (by simp)) fun _ => ?_
          refine And.intro (fun h => absurd h (by simp)) fun _ => ?_
          refine And.intro (fun h => absurd h (by simp)) fun _ => ?_
          refine And.intro (fun _ => ?_) fun h => absurd h (by simp)
          refine And.intro (fun _ => ?_) fun h => absurd h (by simp)
          refine And.intro (fun _ => ?_) fun h => absurd h (by simp)
          refine And.intro (fun _ => ?_) fun h => absurd h (by simp)
          refine And.intro (fun _ => ?_) fun h => absurd h (by simp)
          refine And.intro (fun h => Bool.noConfusion h) fun _ => ?_
          refine SpecP.mono (f38_spec []) ?_
          rintro _ _ ⟨rfl, rfl⟩
          refine And.intro (fun _ => ?_) fun h => Bool.noConfusion h
          exact Exists.intro [] (ret_bool rfl rfl)
    · obtain ⟨hb, hs⟩ := hts_of h
      have TK := task_ok hb
      cases hp : planB t [] with
      | false =>
        refine SpecP.mono (SpecP.conv (conv_third nilc) (f42_arg (p := []) (n2 := true) h hp)) ?_
        rintro _ _ ⟨rfl, rfl⟩
        refine SpecP.mono (SpecP.conv (conv_second nilc) (f43_arg (p := []) (n2 := true) hb hp)) ?_
        rintro _ _ ⟨rfl, rfl⟩
        refine And.intro (fun h => Bool.noConfusion h) fun _ => ?_
        refine SpecP.mono (f40_spec t b1 s []) ?_
        rintro _ _ ⟨rfl, rfl⟩
        rw [h]
        refine And.intro (fun h => absurd h (by simp)) fun _ => ?_
        refine SpecP.mono (SpecP.conv (conv_second nilc) (f44_spec t true [] [])) ?_
        rintro _ _ ⟨rfl, rfl⟩
        rw [hp]
        refine And.intro (fun h => Bool.noConfusion h) fun _ => ?_
        refine And.intro (fun h => absurd h (by simp)) fun _ => ?_
        refine And.intro (fun h => absurd h (by simp)) fun _ => ?_
        refine And.intro (fun h => absurd h (by simp)) fun _ => ?_
        refine And.intro (fun h => absurd h (by simp)) fun _ => ?_
        refine And.intro (fun _ => ?_) fun h => absurd h (by simp)
        refine And.intro (fun _ => ?_) fun h => absurd h (by simp)
        refine And.intro (fun _ => ?_) fun h => absurd h (by simp)
        refine And.intro (fun _ => ?_) fun h => absurd h (by simp)
        refine And.intro (fun _ => ?_) fun h => absurd h (by simp)
        refine And.intro (fun _ => ?_) fun h => absurd h (by simp)
        refine And.intro (fun h => Bool.noConfusion h) fun _ => ?_
        refine SpecP.mono (f38_spec []) ?_
        rintro _ _ ⟨rfl, rfl⟩
        refine And.intro (fun _ => ?_) fun h => Bool.noConfusion h
        exact Exists.intro [] (ret_bool rfl rfl)
      | true =>
        by_cases hv : Valid t t.init []
        · refine SpecP.mono (SpecP.conv (conv_third nilc) (f42_ran (p := []) (n2 := true) h hp)) ?_
          rintro _ _ ⟨k, at_, hr, rfl, rfl⟩
          refine SpecP.mono (SpecP.conv (conv_second nilc) (f43_yes (p := []) (n2 := true) hb hp hv)) ?_
          rintro _ _ ⟨rfl, rfl⟩
          refine And.intro (fun _ => ?_) fun h => Bool.noConfusion h
          refine SpecP.mono (f40_spec t b1 s []) ?_
          rintro _ _ ⟨rfl, rfl⟩
          rw [h]
          refine And.intro (fun h => absurd h (by simp)) fun _ => ?_
          refine SpecP.mono (SpecP.conv (conv_second nilc) (f44_spec t true [] [])) ?_
          rintro _ _ ⟨rfl, rfl⟩
          rw [hp]
          refine And.intro (fun _ => ?_) fun h => Bool.noConfusion h
          refine And.intro (fun _ => ?_) fun h => absurd h (by simp)
          refine SpecP.mono (SpecP.conv (conv_third nilc) (f22_yes (n1 := t.ni) (n2 := true) TK (init_rising hb) hv)) ?_
          rintro _ _ ⟨rfl, rfl⟩
          refine And.intro (fun _ => ?_) fun h => Bool.noConfusion h
          refine And.intro (fun h => absurd h (by simp)) fun _ => ?_
          refine And.intro (fun h => absurd h (by simp)) fun _ => ?_
          refine And.intro (fun h => absurd h (by simp)) fun _ => ?_
          refine And.intro (fun _ => ?_) fun h => absurd h (by simp)
          refine And.intro (fun h => absurd h (by simp)) fun _ => ?_
          refine SpecP.mono (SpecP.conv (conv_third nilc) (f23c_spec (n1 := b1) (n2 := true) TK hs hp hr)) ?_
          rintro _ _ ⟨rfl, rfl⟩
          refine And.intro (fun h => absurd h (by simp)) fun _ => ?_
          refine And.intro (fun h => absurd h (by simp)) fun _ => ?_
          refine And.intro (fun h => absurd h (by simp)) fun _ => ?_
          refine And.intro (fun h => absurd h (by simp [stTs_len, stRows_len])) fun _ => ?_
          have hrl := stRows_len t s [] k
          have hkl := ran_len hp hr
          refine And.intro (fun h4 => ?_) fun h4 => ?_
          all_goals
            refine And.intro (by omega) (And.intro (by omega) ?_)
            refine And.intro (by omega) (Exists.intro [sT (stAt t s [] k)] (And.intro (by rw [show (((stRows t s [] k).length : Int) - 1).toNat = k by omega]; exact stRows_get (Nat.le_refl k)) ?_))
            refine SpecP.mono (SpecP.conv (conv_first fun _ _ _ _ => sT_vl) (f25_spec (stAt t s [] k).isEmpty t.gn (stAt t s [] k) t.goal [])) ?_
            rintro _ _ ⟨rfl, rfl⟩
            rw [h4]
            refine And.intro ⟨rfl, rfl, rfl⟩ ?_
            refine And.intro (fun h5 => ?_) fun h5 => ?_
            all_goals
              first
                | exact Bool.noConfusion h5
                | (refine And.intro (fun h => absurd h (by simp)) fun _ => ?_
                   refine LoopW.mk Nat (fun i => i ≤ k + 1) (fun i => [(10, .ptr (.cur 80) 0), (192, .t (.sl false 1 (stRows t s [] k))), (193, .int (stRows t s [] k).length), (194, .int i)])
                     (fun _ => ⟨out, [(80, .box [.t (.sl false 1 (stTs b1 t s [] k)), .int (costAt t [] k), .bool _])]⟩) (fun i => k + 1 - i) 0 (Nat.zero_le _) ⟨rfl, rfl⟩ fun i hi0 => ?_
                   refine And.intro (fun h6 => ?_) fun h6 => ?_
                   · have h6 := of_decide_eq_true h6
                     have hi : i ≤ k := by omega
                     refine And.intro (by omega) (Exists.intro [sT (stAt t s [] i)] (And.intro (by rw [Int.toNat_natCast]; exact stRows_get hi) ?_))
                     refine And.intro (by omega) (Exists.intro [tIs (stN b1 t s [] i) (stAt t s [] i)] (And.intro (by rw [Int.toNat_natCast]; exact stTs_get hi) ?_))
                     refine SpecP.mono (SpecP.conv (conv_first fun _ _ _ _ => sT_vl) (f20_spec (stAt t s [] i).isEmpty (stN b1 t s [] i) (stAt t s [] i) (stAt t s [] i) [])) ?_
                     rintro _ _ ⟨rfl, rfl⟩
                     refine And.intro (fun _ => ?_) fun h => absurd h (by simp)
                     refine And.intro (by omega) (And.intro (by omega) ?_)
                     exact Exists.intro (i + 1) (And.intro (by show k + 1 - (i + 1) < k + 1 - i; omega) (And.intro (by show i + 1 ≤ k + 1; omega) (And.intro rfl rfl)))
                   · refine SpecP.mono (f38_spec []) ?_
                     rintro _ _ ⟨rfl, rfl⟩
                     refine And.intro (fun _ => ?_) fun h => Bool.noConfusion h
                     exact Exists.intro [] (ret_bool rfl rfl))
        · refine SpecP.mono (SpecP.conv (conv_third nilc) (f42_ran (p := []) (n2 := true) h hp)) ?_
          rintro _ _ ⟨k, at_, hr, rfl, rfl⟩
          refine SpecP.mono (SpecP.conv (conv_second nilc) (f43_no (p := []) (n2 := true) hb hp hv)) ?_
          rintro _ _ ⟨rfl, rfl⟩
          refine And.intro (fun h => Bool.noConfusion h) fun _ => ?_
          refine SpecP.mono (f40_spec t b1 s []) ?_
          rintro _ _ ⟨rfl, rfl⟩
          rw [h]
          refine And.intro (fun h => absurd h (by simp)) fun _ => ?_
          refine SpecP.mono (SpecP.conv (conv_second nilc) (f44_spec t true [] [])) ?_
          rintro _ _ ⟨rfl, rfl⟩
          rw [hp]
          refine And.intro (fun _ => ?_) fun h => Bool.noConfusion h
          refine And.intro (fun _ => ?_) fun h => absurd h (by simp)
          refine SpecP.mono (SpecP.conv (conv_third nilc) (f22_no (n1 := t.ni) (n2 := true) TK (init_rising hb) hv)) ?_
          rintro _ _ ⟨rfl, rfl⟩
          refine And.intro (fun h => Bool.noConfusion h) fun _ => ?_
          refine And.intro (fun h => absurd h (by simp)) fun _ => ?_
          refine And.intro (fun h => absurd h (by simp)) fun _ => ?_
          refine And.intro (fun h => absurd h (by simp)) fun _ => ?_
          refine And.intro (fun _ => ?_) fun h => absurd h (by simp)
          refine And.intro (fun h => absurd h (by simp)) fun _ => ?_
          refine SpecP.mono (SpecP.conv (conv_third nilc) (f23c_spec (n1 := b1) (n2 := true) TK hs hp hr)) ?_
          rintro _ _ ⟨rfl, rfl⟩
          refine And.intro (fun h => absurd h (by simp)) fun _ => ?_
          refine And.intro (fun h => absurd h (by simp)) fun _ => ?_
          refine And.intro (fun h => absurd h (by simp)) fun _ => ?_
          refine And.intro (fun h => absurd h (by simp [stTs_len, stRows_len])) fun _ => ?_
          have hrl := stRows_len t s [] k
          have hkl := ran_len hp hr
          refine And.intro (fun h4 => ?_) fun h4 => ?_
          all_goals
            refine And.intro (by omega) (And.intro (by omega) ?_)
            refine And.intro (by omega) (Exists.intro [sT (stAt t s [] k)] (And.intro (by rw [show (((stRows t s [] k).length : Int) - 1).toNat = k by omega]; exact stRows_get (Nat.le_refl k)) ?_))
            refine SpecP.mono (SpecP.conv (conv_first fun _ _ _ _ => sT_vl) (f25_spec (stAt t s [] k).isEmpty t.gn (stAt t s [] k) t.goal [])) ?_
            rintro _ _ ⟨rfl, rfl⟩
            rw [h4]
            refine And.intro ⟨rfl, rfl, rfl⟩ ?_
            refine And.intro (fun h5 => ?_) fun h5 => ?_
            all_goals
              first
                | exact Bool.noConfusion h5
                | (refine And.intro (fun h => absurd h (by simp)) fun _ => ?_
                   refine LoopW.mk Nat (fun i => i ≤ k + 1) (fun i => [(10, .ptr (.cur 80) 0), (192, .t (.sl false 1 (stRows t s [] k))), (193, .int (stRows t s [] k).length), (194, .int i)])
                     (fun _ => ⟨out, [(80, .box [.t (.sl false 1 (stTs b1 t s [] k)), .int (costAt t [] k), .bool _])]⟩) (fun i => k + 1 - i) 0 (Nat.zero_le _) ⟨rfl, rfl⟩ fun i hi0 => ?_
                   refine And.intro (fun h6 => ?_) fun h6 => ?_
                   · have h6 := of_decide_eq_true h6
                     have hi : i ≤ k := by omega
                     refine And.intro (by omega) (Exists.intro [sT (stAt t s [] i)] (And.intro (by rw [Int.toNat_natCast]; exact stRows_get hi) ?_))
                     refine And.intro (by omega) (Exists.intro [tIs (stN b1 t s [] i) (stAt t s [] i)] (And.intro (by rw [Int.toNat_natCast]; exact stTs_get hi) ?_))
                     refine SpecP.mono (SpecP.conv (conv_first fun _ _ _ _ => sT_vl) (f20_spec (stAt t s [] i).isEmpty (stN b1 t s [] i) (stAt t s [] i) (stAt t s [] i) [])) ?_
                     rintro _ _ ⟨rfl, rfl⟩
                     refine And.intro (fun _ => ?_) fun h => absurd h (by simp)
                     refine And.intro (by omega) (And.intro (by omega) ?_)
                     exact Exists.intro (i + 1) (And.intro (by show k + 1 - (i + 1) < k + 1 - i; omega) (And.intro (by show i + 1 ≤ k + 1; omega) (And.intro rfl rfl)))
                   · refine SpecP.mono (f38_spec []) ?_
                     rintro _ _ ⟨rfl, rfl⟩
                     refine And.intro (fun _ => ?_) fun h => Bool.noConfusion h
                     exact Exists.intro [] (ret_bool rfl rfl))
  · refine And.intro (fun h1 => ?_) fun h1 => ?_
    · have h1 := of_decide_eq_true h1
      have e : (r ++ p).map tI = r.map tI ++ p.map tI := by simp
      have hq : ((tI x :: r.map tI) ++ p.map tI).length ≤ 20400 := by
        have : (x :: r).length ≤ 400 * i := hL
        simp at this ⊢; omega
      refine And.intro rfl (And.intro (by show ((tI x :: r.map tI) ++ p.map tI).length * 8 ≤ _; omega) (And.intro (by show ((tI x :: r.map tI) ++ p.map tI).length ≤ _; omega) ?_))
      refine And.intro (by omega) (And.intro (by omega) ?_)
      refine Exists.intro (i + 1, x :: (r ++ p)) (And.intro (by show 50 - (i + 1) < 50 - i; omega) (And.intro ⟨by omega, by show (x :: (r ++ p)).length ≤ 400 * (i + 1); simp at hL ⊢; omega⟩ ?_))
      simp only [List.map_cons, e]
      exact And.intro rfl rfl
    clear h1 hL hi0
    refine Exists.intro (tI x :: r.map tI) (And.intro take_all (And.intro (by simp) ?_))
    refine Exists.intro (tI x :: r.map tI) (And.intro take_all (And.intro (by simp) ?_))
    refine Exists.intro (tI x :: r.map tI) (And.intro take_all (And.intro (by simp) ?_))
    rcases fine_cases t s with h | h | h
    · have hn : fineI t s ≠ 0 := by rw [h]; decide
      have hb := fine10 h
      refine SpecP.mono (f42_fault (p := (x :: r)) (n2 := false) hn) ?_
      rintro _ _ ⟨rfl, rfl⟩
      refine SpecP.mono (f43_fault (p := (x :: r)) (n2 := false) hb) ?_
      rintro _ _ ⟨rfl, rfl⟩
      refine And.intro (fun h => Bool.noConfusion h) fun _ => ?_
      refine SpecP.mono (f40_spec t b1 s []) ?_
      rintro _ _ ⟨rfl, rfl⟩
      rw [h]
      refine And.intro (fun _ => ?_) fun h => absurd h (by simp)
      refine And.intro (fun _ => ?_) fun h => absurd h (by simp)
      refine And.intro (fun _ => ?_) fun h => absurd h (by simp)
      refine And.intro (fun _ => ?_) fun h => absurd h (by simp)
      refine And.intro (fun _ => ?_) fun h => absurd h (by simp)
      refine And.intro (fun _ => ?_) fun h => absurd h (by simp)
      refine SpecP.mono (f38_spec []) ?_
      rintro _ _ ⟨rfl, rfl⟩
      refine And.intro (fun _ => ?_) fun h => Bool.noConfusion h
      exact Exists.intro [] (ret_bool rfl rfl)
    · have hn : fineI t s ≠ 0 := by rw [h]; decide
      have hb := fine20 h
      have TK := task_ok hb
      cases hp : planB t (x :: r) with
      | false =>
        refine SpecP.mono (f42_fault (p := (x :: r)) (n2 := false) hn) ?_
        rintro _ _ ⟨rfl, rfl⟩
        refine SpecP.mono (f43_arg (p := (x :: r)) (n2 := false) hb hp) ?_
        rintro _ _ ⟨rfl, rfl⟩
        refine And.intro (fun h => Bool.noConfusion h) fun _ => ?_
        refine SpecP.mono (f40_spec t b1 s []) ?_
        rintro _ _ ⟨rfl, rfl⟩
        rw [h]
        refine And.intro (fun h => absurd h (by simp)) fun _ => ?_
        refine SpecP.mono (f44_spec t false (x :: r) []) ?_
        rintro _ _ ⟨rfl, rfl⟩
        rw [hp]
        refine And.intro (fun h => Bool.noConfusion h) fun _ => ?_
        refine And.intro (fun h => absurd h (by simp)) fun _ => ?_
        refine And.intro (fun h => absurd h (by simp)) fun _ => ?_
        refine And.intro (fun h => absurd h (by simp)) fun _ => ?_
        refine And.intro (fun h => absurd h (by simp)) fun _ => ?_
        refine And.intro (fun h => absurd h (by simp)) fun _ => ?_
        refine And.intro (fun _ => ?_) fun h => absurd h (by simp)
        refine And.intro (fun _ => ?_) fun h => absurd h (by simp)
        refine And.intro (fun _ => ?_) fun h => absurd h (by simp)
        refine And.intro (fun _ => ?_) fun h => absurd h (by simp)
        refine And.intro (fun _ => ?_) fun h => absurd h (by simp)
        refine And.intro (fun h => Bool.noConfusion h) fun _ => ?_
        refine SpecP.mono (f38_spec []) ?_
        rintro _ _ ⟨rfl, rfl⟩
        refine And.intro (fun _ => ?_) fun h => Bool.noConfusion h
        exact Exists.intro [] (ret_bool rfl rfl)
      | true =>
        by_cases hv : Valid t t.init (x :: r)
        · refine SpecP.mono (f42_fault (p := (x :: r)) (n2 := false) hn) ?_
          rintro _ _ ⟨rfl, rfl⟩
          refine SpecP.mono (f43_yes (p := (x :: r)) (n2 := false) hb hp hv) ?_
          rintro _ _ ⟨rfl, rfl⟩
          refine And.intro (fun _ => ?_) fun h => Bool.noConfusion h
          refine SpecP.mono (f40_spec t b1 s []) ?_
          rintro _ _ ⟨rfl, rfl⟩
          rw [h]
          refine And.intro (fun h => absurd h (by simp)) fun _ => ?_
          refine SpecP.mono (f44_spec t false (x :: r) []) ?_
          rintro _ _ ⟨rfl, rfl⟩
          rw [hp]
          refine And.intro (fun _ => ?_) fun h => Bool.noConfusion h
          refine And.intro (fun _ => ?_) fun h => absurd h (by simp)
          refine SpecP.mono (f22_yes (n1 := t.ni) (n2 := false) TK (init_rising hb) hv) ?_
          rintro _ _ ⟨rfl, rfl⟩
          refine And.intro (fun _ => ?_) fun h => Bool.noConfusion h
          refine And.intro (fun h => absurd h (by simp)) fun _ => ?_
          refine And.intro (fun h => absurd h (by simp)) fun _ => ?_
          refine And.intro (fun h => absurd h (by simp)) fun _ => ?_
          refine And.intro (fun h => absurd h (by simp)) fun _ => ?_
          refine And.intro (fun _ => ?_) fun h => absurd h (by simp)
          refine And.intro (fun _ => ?_) fun h => absurd h (by simp)
          refine And.intro (fun _ => ?_) fun h => absurd h (by simp)
          refine And.intro (fun _ => ?_) fun h => absurd h (by simp)
          refine And.intro (fun _ => ?_) fun h => absurd h (by simp)
          refine And.intro (fun h => Bool.noConfusion h) fun _ => ?_
          refine SpecP.mono (f38_spec []) ?_
          rintro _ _ ⟨rfl, rfl⟩
          refine And.intro (fun _ => ?_) fun h => Bool.noConfusion h
          exact Exists.intro [] (ret_bool rfl rfl)
        · refine SpecP.mono (f42_fault (p := (x :: r)) (n2 := false) hn) ?_
          rintro _ _ ⟨rfl, rfl⟩
          refine SpecP.mono (f43_no (p := (x :: r)) (n2 := false) hb hp hv) ?_
          rintro _ _ ⟨rfl, rfl⟩
          refine And.intro (fun h => Bool.noConfusion h) fun _ => ?_
          refine SpecP.mono (f40_spec t b1 s []) ?_
          rintro _ _ ⟨rfl, rfl⟩
          rw [h]
          refine And.intro (fun h => absurd h (by simp)) fun _ => ?_
          refine SpecP.mono (f44_spec t false (x :: r) []) ?_
          rintro _ _ ⟨rfl, rfl⟩
          rw [hp]
          refine And.intro (fun _ => ?_) fun h => Bool.noConfusion h
          refine And.intro (fun _ => ?_) fun h => absurd h (by simp)
          refine SpecP.mono (f22_no (n1 := t.ni) (n2 := false) TK (init_rising hb) hv) ?_
          rintro _ _ ⟨rfl, rfl⟩
          refine And.intro (fun h => Bool.noConfusion h) fun _ => ?_
          refine And.intro (fun h => absurd h (by simp)) fun _ => ?_
          refine And.intro (fun h => absurd h (by simp)) fun _ => ?_
          refine And.intro (fun h => absurd h (by simp)) fun _ => ?_
          refine And.intro (fun h => absurd h (by simp)) fun _ => ?_
          refine And.intro (fun _ => ?_) fun h => absurd h (by simp)
          refine And.intro (fun _ => ?_) fun h => absurd h (by simp)
          refine And.intro (fun _ => ?_) fun h => absurd h (by simp)
          refine And.intro (fun _ => ?_) fun h => absurd h (by simp)
          refine And.intro (fun _ => ?_) fun h => absurd h (by simp)
          refine And.intro (fun h => Bool.noConfusion h) fun _ => ?_
          refine SpecP.mono (f38_spec []) ?_
          rintro _ _ ⟨rfl, rfl⟩
          refine And.intro (fun _ => ?_) fun h => Bool.noConfusion h
          exact Exists.intro [] (ret_bool rfl rfl)
    · obtain ⟨hb, hs⟩ := hts_of h
      have TK := task_ok hb
      cases hp : planB t (x :: r) with
      | false =>
        refine SpecP.mono (f42_arg (p := (x :: r)) (n2 := false) h hp) ?_
        rintro _ _ ⟨rfl, rfl⟩
        refine SpecP.mono (f43_arg (p := (x :: r)) (n2 := false) hb hp) ?_
        rintro _ _ ⟨rfl, rfl⟩
        refine And.intro (fun h => Bool.noConfusion h) fun _ => ?_
        refine SpecP.mono (f40_spec t b1 s []) ?_
        rintro _ _ ⟨rfl, rfl⟩
        rw [h]
        refine And.intro (fun h => absurd h (by simp)) fun _ => ?_
        refine SpecP.mono (f44_spec t false (x :: r) []) ?_
        rintro _ _ ⟨rfl, rfl⟩
        rw [hp]
        refine And.intro (fun h => Bool.noConfusion h) fun _ => ?_
        refine And.intro (fun h => absurd h (by simp)) fun _ => ?_
        refine And.intro (fun h => absurd h (by simp)) fun _ => ?_
        refine And.intro (fun h => absurd h (by simp)) fun _ => ?_
        refine And.intro (fun h => absurd h (by simp)) fun _ => ?_
        refine And.intro (fun _ => ?_) fun h => absurd h (by simp)
        refine And.intro (fun _ => ?_) fun h => absurd h (by simp)
        refine And.intro (fun _ => ?_) fun h => absurd h (by simp)
        refine And.intro (fun _ => ?_) fun h => absurd h (by simp)
        refine And.intro (fun _ => ?_) fun h => absurd h (by simp)
        refine And.intro (fun _ => ?_) fun h => absurd h (by simp)
        refine And.intro (fun h => Bool.noConfusion h) fun _ => ?_
        refine SpecP.mono (f38_spec []) ?_
        rintro _ _ ⟨rfl, rfl⟩
        refine And.intro (fun _ => ?_) fun h => Bool.noConfusion h
        exact Exists.intro [] (ret_bool rfl rfl)
      | true =>
        by_cases hv : Valid t t.init (x :: r)
        · refine SpecP.mono (f42_ran (p := (x :: r)) (n2 := false) h hp) ?_
          rintro _ _ ⟨k, at_, hr, rfl, rfl⟩
          refine SpecP.mono (f43_yes (p := (x :: r)) (n2 := false) hb hp hv) ?_
          rintro _ _ ⟨rfl, rfl⟩
          refine And.intro (fun _ => ?_) fun h => Bool.noConfusion h
          refine SpecP.mono (f40_spec t b1 s []) ?_
          rintro _ _ ⟨rfl, rfl⟩
          rw [h]
          refine And.intro (fun h => absurd h (by simp)) fun _ => ?_
          refine SpecP.mono (f44_spec t false (x :: r) []) ?_
          rintro _ _ ⟨rfl, rfl⟩
          rw [hp]
          refine And.intro (fun _ => ?_) fun h => Bool.noConfusion h
          refine And.intro (fun _ => ?_) fun h => absurd h (by simp)
          refine SpecP.mono (f22_yes (n1 := t.ni) (n2 := false) TK (init_rising hb) hv) ?_
          rintro _ _ ⟨rfl, rfl⟩
          refine And.intro (fun _ => ?_) fun h => Bool.noConfusion h
          refine And.intro (fun h => absurd h (by simp)) fun _ => ?_
          refine And.intro (fun h => absurd h (by simp)) fun _ => ?_
          refine And.intro (fun h => absurd h (by simp)) fun _ => ?_
          refine And.intro (fun _ => ?_) fun h => absurd h (by simp)
          refine And.intro (fun h => absurd h (by simp)) fun _ => ?_
          refine SpecP.mono (f23c_spec (n1 := b1) (n2 := false) TK hs hp hr) ?_
          rintro _ _ ⟨rfl, rfl⟩
          refine And.intro (fun h => absurd h (by simp)) fun _ => ?_
          refine And.intro (fun h => absurd h (by simp)) fun _ => ?_
          refine And.intro (fun h => absurd h (by simp)) fun _ => ?_
          refine And.intro (fun h => absurd h (by simp [stTs_len, stRows_len])) fun _ => ?_
          have hrl := stRows_len t s (x :: r) k
          have hkl := ran_len hp hr
          refine And.intro (fun h4 => ?_) fun h4 => ?_
          all_goals
            refine And.intro (by omega) (And.intro (by omega) ?_)
            refine And.intro (by omega) (Exists.intro [sT (stAt t s (x :: r) k)] (And.intro (by rw [show (((stRows t s (x :: r) k).length : Int) - 1).toNat = k by omega]; exact stRows_get (Nat.le_refl k)) ?_))
            refine SpecP.mono (SpecP.conv (conv_first fun _ _ _ _ => sT_vl) (f25_spec (stAt t s (x :: r) k).isEmpty t.gn (stAt t s (x :: r) k) t.goal [])) ?_
            rintro _ _ ⟨rfl, rfl⟩
            rw [h4]
            refine And.intro ⟨rfl, rfl, rfl⟩ ?_
            refine And.intro (fun h5 => ?_) fun h5 => ?_
            all_goals
              first
                | exact Bool.noConfusion h5
                | (refine And.intro (fun h => absurd h (by simp)) fun _ => ?_
                   refine LoopW.mk Nat (fun i => i ≤ k + 1) (fun i => [(10, .ptr (.cur 80) 0), (192, .t (.sl false 1 (stRows t s (x :: r) k))), (193, .int (stRows t s (x :: r) k).length), (194, .int i)])
                     (fun _ => ⟨out, [(80, .box [.t (.sl false 1 (stTs b1 t s (x :: r) k)), .int (costAt t (x :: r) k), .bool _])]⟩) (fun i => k + 1 - i) 0 (Nat.zero_le _) ⟨rfl, rfl⟩ fun i hi0 => ?_
                   refine And.intro (fun h6 => ?_) fun h6 => ?_
                   · have h6 := of_decide_eq_true h6
                     have hi : i ≤ k := by omega
                     refine And.intro (by omega) (Exists.intro [sT (stAt t s (x :: r) i)] (And.intro (by rw [Int.toNat_natCast]; exact stRows_get hi) ?_))
                     refine And.intro (by omega) (Exists.intro [tIs (stN b1 t s (x :: r) i) (stAt t s (x :: r) i)] (And.intro (by rw [Int.toNat_natCast]; exact stTs_get hi) ?_))
                     refine SpecP.mono (SpecP.conv (conv_first fun _ _ _ _ => sT_vl) (f20_spec (stAt t s (x :: r) i).isEmpty (stN b1 t s (x :: r) i) (stAt t s (x :: r) i) (stAt t s (x :: r) i) [])) ?_
                     rintro _ _ ⟨rfl, rfl⟩
                     refine And.intro (fun _ => ?_) fun h => absurd h (by simp)
                     refine And.intro (by omega) (And.intro (by omega) ?_)
                     exact Exists.intro (i + 1) (And.intro (by show k + 1 - (i + 1) < k + 1 - i; omega) (And.intro (by show i + 1 ≤ k + 1; omega) (And.intro rfl rfl)))
                   · refine SpecP.mono (f38_spec []) ?_
                     rintro _ _ ⟨rfl, rfl⟩
                     refine And.intro (fun _ => ?_) fun h => Bool.noConfusion h
                     exact Exists.intro [] (ret_bool rfl rfl))
        · refine SpecP.mono (f42_ran (p := (x :: r)) (n2 := false) h hp) ?_
          rintro _ _ ⟨k, at_, hr, rfl, rfl⟩
          refine SpecP.mono (f43_no (p := (x :: r)) (n2 := false) hb hp hv) ?_
          rintro _ _ ⟨rfl, rfl⟩
          refine And.intro (fun h => Bool.noConfusion h) fun _ => ?_
          refine SpecP.mono (f40_spec t b1 s []) ?_
          rintro _ _ ⟨rfl, rfl⟩
          rw [h]
          refine And.intro (fun h => absurd h (by simp)) fun _ => ?_
          refine SpecP.mono (f44_spec t false (x :: r) []) ?_
          rintro _ _ ⟨rfl, rfl⟩
          rw [hp]
          refine And.intro (fun _ => ?_) fun h => Bool.noConfusion h
          refine And.intro (fun _ => ?_) fun h => absurd h (by simp)
          refine SpecP.mono (f22_no (n1 := t.ni) (n2 := false) TK (init_rising hb) hv) ?_
          rintro _ _ ⟨rfl, rfl⟩
          refine And.intro (fun h => Bool.noConfusion h) fun _ => ?_
          refine And.intro (fun h => absurd h (by simp)) fun _ => ?_
          refine And.intro (fun h => absurd h (by simp)) fun _ => ?_
          refine And.intro (fun h => absurd h (by simp)) fun _ => ?_
          refine And.intro (fun _ => ?_) fun h => absurd h (by simp)
          refine And.intro (fun h => absurd h (by simp)) fun _ => ?_
          refine SpecP.mono (f23c_spec (n1 := b1) (n2 := false) TK hs hp hr) ?_
          rintro _ _ ⟨rfl, rfl⟩
          refine And.intro (fun h => absurd h (by simp)) fun _ => ?_
          refine And.intro (fun h => absurd h (by simp)) fun _ => ?_
          refine And.intro (fun h => absurd h (by simp)) fun _ => ?_
          refine And.intro (fun h => absurd h (by simp [stTs_len, stRows_len])) fun _ => ?_
          have hrl := stRows_len t s (x :: r) k
          have hkl := ran_len hp hr
          refine And.intro (fun h4 => ?_) fun h4 => ?_
          all_goals
            refine And.intro (by omega) (And.intro (by omega) ?_)
            refine And.intro (by omega) (Exists.intro [sT (stAt t s (x :: r) k)] (And.intro (by rw [show (((stRows t s (x :: r) k).length : Int) - 1).toNat = k by omega]; exact stRows_get (Nat.le_refl k)) ?_))
            refine SpecP.mono (SpecP.conv (conv_first fun _ _ _ _ => sT_vl) (f25_spec (stAt t s (x :: r) k).isEmpty t.gn (stAt t s (x :: r) k) t.goal [])) ?_
            rintro _ _ ⟨rfl, rfl⟩
            rw [h4]
            refine And.intro ⟨rfl, rfl, rfl⟩ ?_
            refine And.intro (fun h5 => ?_) fun h5 => ?_
            all_goals
              first
                | exact Bool.noConfusion h5
                | (refine And.intro (fun h => absurd h (by simp)) fun _ => ?_
                   refine LoopW.mk Nat (fun i => i ≤ k + 1) (fun i => [(10, .ptr (.cur 80) 0), (192, .t (.sl false 1 (stRows t s (x :: r) k))), (193, .int (stRows t s (x :: r) k).length), (194, .int i)])
                     (fun _ => ⟨out, [(80, .box [.t (.sl false 1 (stTs b1 t s (x :: r) k)), .int (costAt t (x :: r) k), .bool _])]⟩) (fun i => k + 1 - i) 0 (Nat.zero_le _) ⟨rfl, rfl⟩ fun i hi0 => ?_
                   refine And.intro (fun h6 => ?_) fun h6 => ?_
                   · have h6 := of_decide_eq_true h6
                     have hi : i ≤ k := by omega
                     refine And.intro (by omega) (Exists.intro [sT (stAt t s (x :: r) i)] (And.intro (by rw [Int.toNat_natCast]; exact stRows_get hi) ?_))
                     refine And.intro (by omega) (Exists.intro [tIs (stN b1 t s (x :: r) i) (stAt t s (x :: r) i)] (And.intro (by rw [Int.toNat_natCast]; exact stTs_get hi) ?_))
                     refine SpecP.mono (SpecP.conv (conv_first fun _ _ _ _ => sT_vl) (f20_spec (stAt t s (x :: r) i).isEmpty (stN b1 t s (x :: r) i) (stAt t s (x :: r) i) (stAt t s (x :: r) i) [])) ?_
                     rintro _ _ ⟨rfl, rfl⟩
                     refine And.intro (fun _ => ?_) fun h => absurd h (by simp)
                     refine And.intro (by omega) (And.intro (by omega) ?_)
                     exact Exists.intro (i + 1) (And.intro (by show k + 1 - (i + 1) < k + 1 - i; omega) (And.intro (by show i + 1 ≤ k + 1; omega) (And.intro rfl rfl)))
                   · refine SpecP.mono (f38_spec []) ?_
                     rintro _ _ ⟨rfl, rfl⟩
                     refine And.intro (fun _ => ?_) fun h => Bool.noConfusion h
                     exact Exists.intro [] (ret_bool rfl rfl))

end Go.Fw

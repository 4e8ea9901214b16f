/- Texts that lead to the law, part 17. -/
import Derived.Test.YtmcbncmklopoaaaZP
import Derived.Test.YtmcbncmklopoaaaZO

/- The law: flows. -/
namespace Go.Fw
open Go Go.Proofs
set_option maxRecDepth 10000

def od5 : Od := [(14, [(0, .pure), (1, .pure), (2, .pure), (3, .pure), (4, .pure), (5, .pure), (6, .pure), (7, .pure), (8, .pure), (9, .pure), (10, .pure), (11, .pure), (12, .eff), (13, .eff), (14, .pure), (15, .pure), (16, .pure)]), (16, [(0, .pure), (1, .pure), (2, .pure), (3, .eff), (4, .eff), (5, .pure)])]
set_option maxHeartbeats 4000000 in
theorem f5_spec (t : Task) (n1 : Bool) (s : List Int) (n2 : Bool) (p : List Int) (den : Int) (n3 : Bool) (w : List Int) (out : List Fr) : SpecP Try.prog 5 [.task t, .ints n1 s, .ints n2 p, .flow den n3 w] out fun r ro => r = .bool true ∧ ro = [] := by
  refine spec_body cx_ok [] od5 (fn := Try.f5) (by kernel_rfl) rfl (by kernel_rfl) rfl (by unfold FnOK; kernel_rfl) fun hok => ?_
  refine SpecP.mono (f8_spec t 300 _) ?_
  rintro _ _ ⟨b, rfl, rfl⟩
  refine And.intro (fun h1 => ?_) fun h1 => ?_
  rotate_left
  · refine SpecP.mono (f9_spec _) ?_
    rintro _ _ ⟨rfl, rfl⟩
    refine And.intro (fun _ => ?_) fun h => absurd h (by decide)
    exact Exists.intro [] (And.intro rfl rfl)
  refine And.intro (fun h2 => ?_) fun h2 => ?_
  · refine SpecP.mono (f9_spec _) ?_
    rintro _ _ ⟨rfl, rfl⟩
    refine And.intro (fun _ => ?_) fun h => absurd h (by decide)
    exact Exists.intro [] (And.intro rfl rfl)
  refine And.intro (fun h3 => ?_) fun h3 => ?_
  · refine SpecP.mono (f9_spec _) ?_
    rintro _ _ ⟨rfl, rfl⟩
    refine And.intro (fun _ => ?_) fun h => absurd h (by decide)
    exact Exists.intro [] (And.intro rfl rfl)
  refine And.intro (fun h4 => ?_) fun h4 => ?_
  · refine SpecP.mono (f9_spec _) ?_
    rintro _ _ ⟨rfl, rfl⟩
    refine And.intro (fun _ => ?_) fun h => absurd h (by decide)
    exact Exists.intro [] (And.intro rfl rfl)
  have hlp := len300 h3
  clear h1 h2 h3 h4
  cases hB : isB t with
  | false =>
    have hfine : fineI t s = 10 := by rw [fineI, hB]; rfl
    have hchk : checkI t s = 10 := by rw [checkI, hB]
    refine SpecP.mono (f16_spec t n2 p _) ?_
    rintro _ _ ⟨hr, rfl⟩
    rw [hB] at hr
    subst hr
    refine SpecP.mono (f17_spec t n1 s den n3 w _) ?_
    rintro _ _ ⟨hr, rfl⟩
    rw [hfine, if_neg (by decide)] at hr
    subst hr
    repeat' (first | refine And.intro (fun h => absurd h (by decide)) (fun _ => ?_) | refine And.intro (fun _ => ?_) (fun h => absurd h (by decide)) | fail)
    refine SpecP.mono (f18_spec t _) ?_
    rintro _ _ ⟨hr, rfl⟩
    rw [hB] at hr
    subst hr
    repeat' (first | refine And.intro (fun h => absurd h (by decide)) (fun _ => ?_) | refine And.intro (fun _ => ?_) (fun h => absurd h (by decide)) | fail)
    refine SpecP.mono (f11_spec t 10 _) ?_
    rintro _ _ ⟨hr, rfl⟩
    rw [if_neg (fun h => absurd h.1 (by decide))] at hr
    subst hr
    repeat' (first | refine And.intro (fun h => absurd h (by decide)) (fun _ => ?_) | refine And.intro (fun _ => ?_) (fun h => absurd h (by decide)) | fail)
    refine SpecP.mono (f12_spec t n1 s _) ?_
    rintro _ _ ⟨hr, rfl⟩
    rw [hchk] at hr
    subst hr
    refine And.intro ⟨rfl, rfl, rfl⟩ ?_
    refine SpecP.mono (f11_spec t 10 _) ?_
    rintro _ _ ⟨hr, rfl⟩
    rw [if_neg (fun h => absurd h.1 (by decide))] at hr
    subst hr
    refine And.intro ⟨rfl, rfl, rfl⟩ ?_
    repeat' (first | refine And.intro (fun h => absurd h (by decide)) (fun _ => ?_) | refine And.intro (fun _ => ?_) (fun h => absurd h (by decide)) | fail)
    refine SpecP.mono (f9_spec _) ?_
    rintro _ _ ⟨rfl, rfl⟩
    refine And.intro (fun _ => ?_) fun h => absurd h (by decide)
    exact Exists.intro [] (And.intro rfl rfl)
  | true =>
    have TK := task_ok hB
    have hfine : fineI t s = (if risingB s t.facts.length then 0 else 20) := by rw [fineI, hB]; rfl
    have hchk : checkI t s = (if risingB s t.facts.length then 0 else 20) := by rw [checkI, hB]; cases risingB s t.facts.length <;> rfl
    cases hP : plainB t with
    | false =>
      cases hR : risingB s t.facts.length with
      | false =>
        rw [hR] at hfine hchk
        rw [if_neg (by decide)] at hfine hchk
        refine SpecP.mono (f16_spec t n2 p _) ?_
        rintro _ _ ⟨hr, rfl⟩
        rw [hB, hP] at hr
        subst hr
        refine SpecP.mono (f17_spec t n1 s den n3 w _) ?_
        rintro _ _ ⟨hr, rfl⟩
        rw [hfine, if_neg (by decide)] at hr
        subst hr
        repeat' (first | refine And.intro (fun h => absurd h (by decide)) (fun _ => ?_) | refine And.intro (fun _ => ?_) (fun h => absurd h (by decide)) | fail)
        refine SpecP.mono (f18_spec t _) ?_
        rintro _ _ ⟨hr, rfl⟩
        rw [hB] at hr
        subst hr
        repeat' (first | refine And.intro (fun h => absurd h (by decide)) (fun _ => ?_) | refine And.intro (fun _ => ?_) (fun h => absurd h (by decide)) | fail)
        refine SpecP.mono (f11_spec t 0 _) ?_
        rintro _ _ ⟨hr, rfl⟩
        rw [if_pos ⟨rfl, hP⟩] at hr
        subst hr
        repeat' (first | refine And.intro (fun h => absurd h (by decide)) (fun _ => ?_) | refine And.intro (fun _ => ?_) (fun h => absurd h (by decide)) | fail)
        refine SpecP.mono (f12_spec t n1 s _) ?_
        rintro _ _ ⟨hr, rfl⟩
        rw [hchk] at hr
        subst hr
        refine And.intro ⟨rfl, rfl, rfl⟩ ?_
        refine SpecP.mono (f11_spec t 20 _) ?_
        rintro _ _ ⟨hr, rfl⟩
        rw [if_neg (fun h => absurd h.1 (by decide))] at hr
        subst hr
        refine And.intro ⟨rfl, rfl, rfl⟩ ?_
        repeat' (first | refine And.intro (fun h => absurd h (by decide)) (fun _ => ?_) | refine And.intro (fun _ => ?_) (fun h => absurd h (by decide)) | fail)
        refine SpecP.mono (f9_spec _) ?_
        rintro _ _ ⟨rfl, rfl⟩
        refine And.intro (fun _ => ?_) fun h => absurd h (by decide)
        exact Exists.intro [] (And.intro rfl rfl)
      | true =>
        rw [hR] at hfine hchk
        rw [if_pos rfl] at hfine hchk
        refine SpecP.mono (f16_spec t n2 p _) ?_
        rintro _ _ ⟨hr, rfl⟩
        rw [hB, hP] at hr
        subst hr
        refine SpecP.mono (f17_spec t n1 s den n3 w _) ?_
        rintro _ _ ⟨hr, rfl⟩
        rw [hfine, if_pos rfl, hP] at hr
        subst hr
        repeat' (first | refine And.intro (fun h => absurd h (by decide)) (fun _ => ?_) | refine And.intro (fun _ => ?_) (fun h => absurd h (by decide)) | fail)
        refine SpecP.mono (f18_spec t _) ?_
        rintro _ _ ⟨hr, rfl⟩
        rw [hB] at hr
        subst hr
        repeat' (first | refine And.intro (fun h => absurd h (by decide)) (fun _ => ?_) | refine And.intro (fun _ => ?_) (fun h => absurd h (by decide)) | fail)
        refine SpecP.mono (f11_spec t 0 _) ?_
        rintro _ _ ⟨hr, rfl⟩
        rw [if_pos ⟨rfl, hP⟩] at hr
        subst hr
        repeat' (first | refine And.intro (fun h => absurd h (by decide)) (fun _ => ?_) | refine And.intro (fun _ => ?_) (fun h => absurd h (by decide)) | fail)
        refine SpecP.mono (f12_spec t n1 s _) ?_
        rintro _ _ ⟨hr, rfl⟩
        rw [hchk] at hr
        subst hr
        refine And.intro ⟨rfl, rfl, rfl⟩ ?_
        refine SpecP.mono (f11_spec t 0 _) ?_
        rintro _ _ ⟨hr, rfl⟩
        rw [if_pos ⟨rfl, hP⟩] at hr
        subst hr
        refine And.intro ⟨rfl, rfl, rfl⟩ ?_
        repeat' (first | refine And.intro (fun h => absurd h (by decide)) (fun _ => ?_) | refine And.intro (fun _ => ?_) (fun h => absurd h (by decide)) | fail)
        refine SpecP.mono (f9_spec _) ?_
        rintro _ _ ⟨rfl, rfl⟩
        refine And.intro (fun _ => ?_) fun h => absurd h (by decide)
        exact Exists.intro [] (And.intro rfl rfl)
    | true =>
      cases hQ : planB t p with
      | false =>
        cases hR : risingB s t.facts.length with
        | false =>
          rw [hR] at hfine hchk
          rw [if_neg (by decide)] at hfine hchk
          refine SpecP.mono (f16_spec t n2 p _) ?_
          rintro _ _ ⟨hr, rfl⟩
          rw [hB, hP, hQ] at hr
          subst hr
          refine SpecP.mono (f17_spec t n1 s den n3 w _) ?_
          rintro _ _ ⟨hr, rfl⟩
          rw [hfine, if_neg (by decide)] at hr
          subst hr
          repeat' (first | refine And.intro (fun h => absurd h (by decide)) (fun _ => ?_) | refine And.intro (fun _ => ?_) (fun h => absurd h (by decide)) | fail)
          refine SpecP.mono (f18_spec t _) ?_
          rintro _ _ ⟨hr, rfl⟩
          rw [hB] at hr
          subst hr
          repeat' (first | refine And.intro (fun h => absurd h (by decide)) (fun _ => ?_) | refine And.intro (fun _ => ?_) (fun h => absurd h (by decide)) | fail)
          refine SpecP.mono (f11_spec t 0 _) ?_
          rintro _ _ ⟨hr, rfl⟩
          rw [if_neg (fun h => by rw [hP] at h; exact absurd h.2 (by decide))] at hr
          subst hr
          repeat' (first | refine And.intro (fun h => absurd h (by decide)) (fun _ => ?_) | refine And.intro (fun _ => ?_) (fun h => absurd h (by decide)) | fail)
          refine SpecP.mono (f19_spec t n2 p _) ?_
          rintro _ _ ⟨hr, rfl⟩
          rw [hQ] at hr
          subst hr
          repeat' (first | refine And.intro (fun h => absurd h (by decide)) (fun _ => ?_) | refine And.intro (fun _ => ?_) (fun h => absurd h (by decide)) | fail)
          refine SpecP.mono (f12_spec t n1 s _) ?_
          rintro _ _ ⟨hr, rfl⟩
          rw [hchk] at hr
          subst hr
          refine And.intro ⟨rfl, rfl, rfl⟩ ?_
          refine SpecP.mono (f11_spec t 20 _) ?_
          rintro _ _ ⟨hr, rfl⟩
          rw [if_neg (fun h => absurd h.1 (by decide))] at hr
          subst hr
          refine And.intro ⟨rfl, rfl, rfl⟩ ?_
          repeat' (first | refine And.intro (fun h => absurd h (by decide)) (fun _ => ?_) | refine And.intro (fun _ => ?_) (fun h => absurd h (by decide)) | fail)
          refine SpecP.mono (f9_spec _) ?_
          rintro _ _ ⟨rfl, rfl⟩
          refine And.intro (fun _ => ?_) fun h => absurd h (by decide)
          exact Exists.intro [] (And.intro rfl rfl)
        | true =>
          rw [hR] at hfine hchk
          rw [if_pos rfl] at hfine hchk
          cases hF : flowRB t s den w with
          | false =>
            refine SpecP.mono (f16_spec t n2 p _) ?_
            rintro _ _ ⟨hr, rfl⟩
            rw [hB, hP, hQ] at hr
            subst hr
            refine SpecP.mono (f17_spec t n1 s den n3 w _) ?_
            rintro _ _ ⟨hr, rfl⟩
            rw [hfine, if_pos rfl, hP, hF] at hr
            subst hr
            repeat' (first | refine And.intro (fun h => absurd h (by decide)) (fun _ => ?_) | refine And.intro (fun _ => ?_) (fun h => absurd h (by decide)) | fail)
            refine SpecP.mono (f18_spec t _) ?_
            rintro _ _ ⟨hr, rfl⟩
            rw [hB] at hr
            subst hr
            repeat' (first | refine And.intro (fun h => absurd h (by decide)) (fun _ => ?_) | refine And.intro (fun _ => ?_) (fun h => absurd h (by decide)) | fail)
            refine SpecP.mono (f11_spec t 0 _) ?_
            rintro _ _ ⟨hr, rfl⟩
            rw [if_neg (fun h => by rw [hP] at h; exact absurd h.2 (by decide))] at hr
            subst hr
            repeat' (first | refine And.intro (fun h => absurd h (by decide)) (fun _ => ?_) | refine And.intro (fun _ => ?_) (fun h => absurd h (by decide)) | fail)
            refine SpecP.mono (f19_spec t n2 p _) ?_
            rintro _ _ ⟨hr, rfl⟩
            rw [hQ] at hr
            subst hr
            repeat' (first | refine And.intro (fun h => absurd h (by decide)) (fun _ => ?_) | refine And.intro (fun _ => ?_) (fun h => absurd h (by decide)) | fail)
            refine SpecP.mono (f12_spec t n1 s _) ?_
            rintro _ _ ⟨hr, rfl⟩
            rw [hchk] at hr
            subst hr
            refine And.intro ⟨rfl, rfl, rfl⟩ ?_
            refine SpecP.mono (f11_spec t 0 _) ?_
            rintro _ _ ⟨hr, rfl⟩
            rw [if_neg (fun h => by rw [hP] at h; exact absurd h.2 (by decide))] at hr
            subst hr
            refine And.intro ⟨rfl, rfl, rfl⟩ ?_
            repeat' (first | refine And.intro (fun h => absurd h (by decide)) (fun _ => ?_) | refine And.intro (fun _ => ?_) (fun h => absurd h (by decide)) | fail)
            refine SpecP.mono (f22_spec t n1 s den n3 w TK.facts TK.acts _) ?_
            rintro _ _ ⟨hr, rfl⟩
            rw [hF] at hr
            subst hr
            repeat' (first | refine And.intro (fun h => absurd h (by decide)) (fun _ => ?_) | refine And.intro (fun _ => ?_) (fun h => absurd h (by decide)) | fail)
            refine SpecP.mono (f9_spec _) ?_
            rintro _ _ ⟨rfl, rfl⟩
            refine And.intro (fun _ => ?_) fun h => absurd h (by decide)
            exact Exists.intro [] (And.intro rfl rfl)
          | true =>
            refine SpecP.mono (f16_spec t n2 p _) ?_
            rintro _ _ ⟨hr, rfl⟩
            rw [hB, hP, hQ] at hr
            subst hr
            refine SpecP.mono (f17_spec t n1 s den n3 w _) ?_
            rintro _ _ ⟨hr, rfl⟩
            rw [hfine, if_pos rfl, hP, hF] at hr
            subst hr
            repeat' (first | refine And.intro (fun h => absurd h (by decide)) (fun _ => ?_) | refine And.intro (fun _ => ?_) (fun h => absurd h (by decide)) | fail)
            refine SpecP.mono (f18_spec t _) ?_
            rintro _ _ ⟨hr, rfl⟩
            rw [hB] at hr
            subst hr
            repeat' (first | refine And.intro (fun h => absurd h (by decide)) (fun _ => ?_) | refine And.intro (fun _ => ?_) (fun h => absurd h (by decide)) | fail)
            refine SpecP.mono (f11_spec t 0 _) ?_
            rintro _ _ ⟨hr, rfl⟩
            rw [if_neg (fun h => by rw [hP] at h; exact absurd h.2 (by decide))] at hr
            subst hr
            repeat' (first | refine And.intro (fun h => absurd h (by decide)) (fun _ => ?_) | refine And.intro (fun _ => ?_) (fun h => absurd h (by decide)) | fail)
            refine SpecP.mono (f19_spec t n2 p _) ?_
            rintro _ _ ⟨hr, rfl⟩
            rw [hQ] at hr
            subst hr
            repeat' (first | refine And.intro (fun h => absurd h (by decide)) (fun _ => ?_) | refine And.intro (fun _ => ?_) (fun h => absurd h (by decide)) | fail)
            refine SpecP.mono (f12_spec t n1 s _) ?_
            rintro _ _ ⟨hr, rfl⟩
            rw [hchk] at hr
            subst hr
            refine And.intro ⟨rfl, rfl, rfl⟩ ?_
            refine SpecP.mono (f11_spec t 0 _) ?_
            rintro _ _ ⟨hr, rfl⟩
            rw [if_neg (fun h => by rw [hP] at h; exact absurd h.2 (by decide))] at hr
            subst hr
            refine And.intro ⟨rfl, rfl, rfl⟩ ?_
            repeat' (first | refine And.intro (fun h => absurd h (by decide)) (fun _ => ?_) | refine And.intro (fun _ => ?_) (fun h => absurd h (by decide)) | fail)
            refine SpecP.mono (f22_spec t n1 s den n3 w TK.facts TK.acts _) ?_
            rintro _ _ ⟨hr, rfl⟩
            rw [hF] at hr
            subst hr
            repeat' (first | refine And.intro (fun h => absurd h (by decide)) (fun _ => ?_) | refine And.intro (fun _ => ?_) (fun h => absurd h (by decide)) | fail)
            refine SpecP.mono (f9_spec _) ?_
            rintro _ _ ⟨rfl, rfl⟩
            refine And.intro (fun _ => ?_) fun h => absurd h (by decide)
            exact Exists.intro [] (And.intro rfl rfl)
      | true =>
        cases hR : risingB s t.facts.length with
        | false =>
          rw [hR] at hfine hchk
          rw [if_neg (by decide)] at hfine hchk
          refine SpecP.mono (f16_spec t n2 p _) ?_
          rintro _ _ ⟨hr, rfl⟩
          rw [hB, hP, hQ] at hr
          subst hr
          refine SpecP.mono (f17_spec t n1 s den n3 w _) ?_
          rintro _ _ ⟨hr, rfl⟩
          rw [hfine, if_neg (by decide)] at hr
          subst hr
          repeat' (first | refine And.intro (fun h => absurd h (by decide)) (fun _ => ?_) | refine And.intro (fun _ => ?_) (fun h => absurd h (by decide)) | fail)
          refine SpecP.mono (f18_spec t _) ?_
          rintro _ _ ⟨hr, rfl⟩
          rw [hB] at hr
          subst hr
          repeat' (first | refine And.intro (fun h => absurd h (by decide)) (fun _ => ?_) | refine And.intro (fun _ => ?_) (fun h => absurd h (by decide)) | fail)
          refine SpecP.mono (f11_spec t 0 _) ?_
          rintro _ _ ⟨hr, rfl⟩
          rw [if_neg (fun h => by rw [hP] at h; exact absurd h.2 (by decide))] at hr
          subst hr
          repeat' (first | refine And.intro (fun h => absurd h (by decide)) (fun _ => ?_) | refine And.intro (fun _ => ?_) (fun h => absurd h (by decide)) | fail)
          refine SpecP.mono (f19_spec t n2 p _) ?_
          rintro _ _ ⟨hr, rfl⟩
          rw [hQ] at hr
          subst hr
          repeat' (first | refine And.intro (fun h => absurd h (by decide)) (fun _ => ?_) | refine And.intro (fun _ => ?_) (fun h => absurd h (by decide)) | fail)
          refine SpecP.mono (f21_spec t n2 p (planB_in hQ) TK.acts (planB_len hQ) _) ?_
          rintro _ _ ⟨rfl, rfl⟩
          refine And.intro ⟨rfl, rfl, rfl⟩ ?_
          refine SpecP.mono (f20_spec false false (cntL t.acts.length p) (cntL t.acts.length p) _) ?_
          rintro _ _ ⟨hr, rfl⟩
          rw [beq_self_eq_true] at hr
          subst hr
          refine And.intro ⟨rfl, rfl, rfl⟩ ?_
          repeat' (first | refine And.intro (fun h => absurd h (by decide)) (fun _ => ?_) | refine And.intro (fun _ => ?_) (fun h => absurd h (by decide)) | fail)
          refine SpecP.mono (f12_spec t n1 s _) ?_
          rintro _ _ ⟨hr, rfl⟩
          rw [hchk] at hr
          subst hr
          refine And.intro ⟨rfl, rfl, rfl⟩ ?_
          refine SpecP.mono (f11_spec t 20 _) ?_
          rintro _ _ ⟨hr, rfl⟩
          rw [if_neg (fun h => absurd h.1 (by decide))] at hr
          subst hr
          refine And.intro ⟨rfl, rfl, rfl⟩ ?_
          repeat' (first | refine And.intro (fun h => absurd h (by decide)) (fun _ => ?_) | refine And.intro (fun _ => ?_) (fun h => absurd h (by decide)) | fail)
          refine SpecP.mono (f9_spec _) ?_
          rintro _ _ ⟨rfl, rfl⟩
          refine And.intro (fun _ => ?_) fun h => absurd h (by decide)
          exact Exists.intro [] (And.intro rfl rfl)
        | true =>
          rw [hR] at hfine hchk
          rw [if_pos rfl] at hfine hchk
          cases hF : flowRB t s den w with
          | false =>
            refine SpecP.mono (f16_spec t n2 p _) ?_
            rintro _ _ ⟨hr, rfl⟩
            rw [hB, hP, hQ] at hr
            subst hr
            refine SpecP.mono (f17_spec t n1 s den n3 w _) ?_
            rintro _ _ ⟨hr, rfl⟩
            rw [hfine, if_pos rfl, hP, hF] at hr
            subst hr
            repeat' (first | refine And.intro (fun h => absurd h (by decide)) (fun _ => ?_) | refine And.intro (fun _ => ?_) (fun h => absurd h (by decide)) | fail)
            refine SpecP.mono (f18_spec t _) ?_
            rintro _ _ ⟨hr, rfl⟩
            rw [hB] at hr
            subst hr
            repeat' (first | refine And.intro (fun h => absurd h (by decide)) (fun _ => ?_) | refine And.intro (fun _ => ?_) (fun h => absurd h (by decide)) | fail)
            refine SpecP.mono (f11_spec t 0 _) ?_
            rintro _ _ ⟨hr, rfl⟩
            rw [if_neg (fun h => by rw [hP] at h; exact absurd h.2 (by decide))] at hr
            subst hr
            repeat' (first | refine And.intro (fun h => absurd h (by decide)) (fun _ => ?_) | refine And.intro (fun _ => ?_) (fun h => absurd h (by decide)) | fail)
            refine SpecP.mono (f19_spec t n2 p _) ?_
            rintro _ _ ⟨hr, rfl⟩
            rw [hQ] at hr
            subst hr
            repeat' (first | refine And.intro (fun h => absurd h (by decide)) (fun _ => ?_) | refine And.intro (fun _ => ?_) (fun h => absurd h (by decide)) | fail)
            refine SpecP.mono (f21_spec t n2 p (planB_in hQ) TK.acts (planB_len hQ) _) ?_
            rintro _ _ ⟨rfl, rfl⟩
            refine And.intro ⟨rfl, rfl, rfl⟩ ?_
            refine SpecP.mono (f20_spec false false (cntL t.acts.length p) (cntL t.acts.length p) _) ?_
            rintro _ _ ⟨hr, rfl⟩
            rw [beq_self_eq_true] at hr
            subst hr
            refine And.intro ⟨rfl, rfl, rfl⟩ ?_
            repeat' (first | refine And.intro (fun h => absurd h (by decide)) (fun _ => ?_) | refine And.intro (fun _ => ?_) (fun h => absurd h (by decide)) | fail)
            refine SpecP.mono (f12_spec t n1 s _) ?_
            rintro _ _ ⟨hr, rfl⟩
            rw [hchk] at hr
            subst hr
            refine And.intro ⟨rfl, rfl, rfl⟩ ?_
            refine SpecP.mono (f11_spec t 0 _) ?_
            rintro _ _ ⟨hr, rfl⟩
            rw [if_neg (fun h => by rw [hP] at h; exact absurd h.2 (by decide))] at hr
            subst hr
            refine And.intro ⟨rfl, rfl, rfl⟩ ?_
            repeat' (first | refine And.intro (fun h => absurd h (by decide)) (fun _ => ?_) | refine And.intro (fun _ => ?_) (fun h => absurd h (by decide)) | fail)
            refine SpecP.mono (f22_spec t n1 s den n3 w TK.facts TK.acts _) ?_
            rintro _ _ ⟨hr, rfl⟩
            rw [hF] at hr
            subst hr
            repeat' (first | refine And.intro (fun h => absurd h (by decide)) (fun _ => ?_) | refine And.intro (fun _ => ?_) (fun h => absurd h (by decide)) | fail)
            refine SpecP.mono (f9_spec _) ?_
            rintro _ _ ⟨rfl, rfl⟩
            refine And.intro (fun _ => ?_) fun h => absurd h (by decide)
            exact Exists.intro [] (And.intro rfl rfl)
          | true =>
            refine SpecP.mono (f16_spec t n2 p _) ?_
            rintro _ _ ⟨hr, rfl⟩
            rw [hB, hP, hQ] at hr
            subst hr
            refine SpecP.mono (f17_spec t n1 s den n3 w _) ?_
            rintro _ _ ⟨hr, rfl⟩
            rw [hfine, if_pos rfl, hP, hF] at hr
            subst hr
            repeat' (first | refine And.intro (fun h => absurd h (by decide)) (fun _ => ?_) | refine And.intro (fun _ => ?_) (fun h => absurd h (by decide)) | fail)
            refine SpecP.mono (f18_spec t _) ?_
            rintro _ _ ⟨hr, rfl⟩
            rw [hB] at hr
            subst hr
            repeat' (first | refine And.intro (fun h => absurd h (by decide)) (fun _ => ?_) | refine And.intro (fun _ => ?_) (fun h => absurd h (by decide)) | fail)
            refine SpecP.mono (f11_spec t 0 _) ?_
            rintro _ _ ⟨hr, rfl⟩
            rw [if_neg (fun h => by rw [hP] at h; exact absurd h.2 (by decide))] at hr
            subst hr
            repeat' (first | refine And.intro (fun h => absurd h (by decide)) (fun _ => ?_) | refine And.intro (fun _ => ?_) (fun h => absurd h (by decide)) | fail)
            refine SpecP.mono (f19_spec t n2 p _) ?_
            rintro _ _ ⟨hr, rfl⟩
            rw [hQ] at hr
            subst hr
            repeat' (first | refine And.intro (fun h => absurd h (by decide)) (fun _ => ?_) | refine And.intro (fun _ => ?_) (fun h => absurd h (by decide)) | fail)
            refine SpecP.mono (f21_spec t n2 p (planB_in hQ) TK.acts (planB_len hQ) _) ?_
            rintro _ _ ⟨rfl, rfl⟩
            refine And.intro ⟨rfl, rfl, rfl⟩ ?_
            refine SpecP.mono (f20_spec false false (cntL t.acts.length p) (cntL t.acts.length p) _) ?_
            rintro _ _ ⟨hr, rfl⟩
            rw [beq_self_eq_true] at hr
            subst hr
            refine And.intro ⟨rfl, rfl, rfl⟩ ?_
            repeat' (first | refine And.intro (fun h => absurd h (by decide)) (fun _ => ?_) | refine And.intro (fun _ => ?_) (fun h => absurd h (by decide)) | fail)
            refine SpecP.mono (f12_spec t n1 s _) ?_
            rintro _ _ ⟨hr, rfl⟩
            rw [hchk] at hr
            subst hr
            refine And.intro ⟨rfl, rfl, rfl⟩ ?_
            refine SpecP.mono (f11_spec t 0 _) ?_
            rintro _ _ ⟨hr, rfl⟩
            rw [if_neg (fun h => by rw [hP] at h; exact absurd h.2 (by decide))] at hr
            subst hr
            refine And.intro ⟨rfl, rfl, rfl⟩ ?_
            repeat' (first | refine And.intro (fun h => absurd h (by decide)) (fun _ => ?_) | refine And.intro (fun _ => ?_) (fun h => absurd h (by decide)) | fail)
            refine SpecP.mono (f22_spec t n1 s den n3 w TK.facts TK.acts _) ?_
            rintro _ _ ⟨hr, rfl⟩
            rw [hF] at hr
            subst hr
            repeat' (first | refine And.intro (fun h => absurd h (by decide)) (fun _ => ?_) | refine And.intro (fun _ => ?_) (fun h => absurd h (by decide)) | fail)
            refine SpecP.mono (f9_spec _) ?_
            rintro _ _ ⟨rfl, rfl⟩
            refine And.intro (fun _ => ?_) fun h => absurd h (by decide)
            exact Exists.intro [] (And.intro rfl rfl)
end Go.Fw

/- The row: flows that can be read are closed data. -/
namespace Go.Fw
open Go Go.Proofs Go.ChangeShapes Go.WideShapes Go.ChangeAt Go.RowKit

def tFlow (u : Int) (n1 : Bool) (w : List Int) : List T := [.v (.int .i64 u), .sl n1 1 (w.map tI)]
section
variable {H : Type} {enc : TypeId × Value → H} {w : World} {spare : Nat → Bool} {held : Bool}
theorem rd_flow {fuel : Nat} {cs : List Value} {x} (h : DataW.trod enc Try.prog w 0 spare held fuel 33 cs = some x) : ∃ (u : Int) (n1 : Bool) (l : List Int), Rd w cs (tFlow u n1 l) := by
  obtain ⟨hl, hf⟩ := rd_struct cx_ok (t := 33) rfl h
  obtain ⟨n0, y0, h0⟩ := hf 0 3 _ (by decide) rfl
  obtain ⟨n1, y1, h1⟩ := hf 1 23 _ (by decide) rfl
  obtain ⟨a, ha⟩ := rd_int cx_ok (t := 3) rfl h0
  obtain ⟨nc, c, hc⟩ := rd_ints h1
  refine ⟨a, nc, c, hl, fun i x v hx hv => ?_⟩
  match i with
  | 0 => exact ha.part 0 x v hx hv
  | 1 => exact hc.part 0 x v hx hv
  | i + 2 => simp [tFlow] at hx
theorem vl_flow {u : Int} {n1 : Bool} {l : List Int} {v : Value} (h : Rd w v.cells.toList (tFlow u n1 l)) (hv : ∃ cs, v = .agg cs) : VL noKeys (oldB w) w (.flow u n1 l) v := by
  obtain ⟨cs, rfl⟩ := hv
  have h' : Rd w cs.toList (tFlow u n1 l) := h
  obtain ⟨h1, h2⟩ := h'
  rw [show cs = cs.toList.toArray by simp]
  generalize cs.toList = l at h1 h2
  match l, h1 with
  | [a, b], _ =>
    have g0 := h2 0 _ a rfl rfl
    have g1 := h2 1 _ b rfl rfl
    refine .agg _ _ rfl (fun i x v hx hv => ?_) fun v hv => ?_
    · match i with
      | 0 => simp at hx hv; subst hx; subst hv; exact .t _ _ g0
      | 1 => simp at hx hv; subst hx; subst hv; exact .t _ _ g1
      | i + 2 => simp at hx
    · simp at hv
      rcases hv with rfl | rfl
      · exact g0.one
      · exact g1.one
end
theorem und33 : ∃ fs, Try.prog.underlying 33 = some (.struct fs) := by
  obtain ⟨d, h1, h2⟩ := und_ty cx_ok (t := 33) rfl
  cases d <;> simp [descOf] at h2
  exact ⟨_, h1⟩

end Go.Fw

/- Checks: numbers of two words. -/
namespace Go.Fw
open Go Go.Proofs
set_option maxRecDepth 10000

theorem f91_spec (a b k : Int) (hb : 0 ≤ b ∧ b < 18446744073709551616) (hk : 0 ≤ k ∧ k < 18446744073709551616) (out : List Fr) :
    SpecP Try.prog 91 [.wide a b, .u64 k] out fun r ro => r = wideZ ((a * 18446744073709551616 + b) * k) ∧ ro = [] := by
  refine spec_body cxn_ok [] [] (fn := Try.f91) (by kernel_rfl) rfl (by kernel_rfl) rfl (by unfold FnOK; kernel_rfl) fun hok => ?_
  refine SpecP.mono (f90_spec b k hb hk _) ?_
  rintro _ _ ⟨rfl, rfl⟩
  have hbk := mul_lt hb hk
  generalize hB : b * k = B at hbk
  intro m h1
  rw [wrapU] at h1
  intro n h2
  rw [wrapU] at h2
  refine Exists.intro [] (And.intro ?_ rfl)
  have e : (a * 18446744073709551616 + b) * k = a * k * 18446744073709551616 + B := by rw [Int.add_mul, hB, Int.mul_right_comm]
  rw [e]
  generalize a * k = A at h1
  exact wide_eq (a := n) (b := B % 18446744073709551616) (by omega) (by omega)
theorem f34_spec (a b k : Int) (hb : 0 ≤ b ∧ b < 18446744073709551616) (hk : 0 ≤ k ∧ k < 9223372036854775808) (out : List Fr) :
    SpecP Try.prog 34 [.wide a b, .int k] out fun r ro => r = wideZ ((a * 18446744073709551616 + b) * k) ∧ ro = [] := by
  refine spec_body cxn_ok [] [] (fn := Try.f34) (by kernel_rfl) rfl (by kernel_rfl) rfl (by unfold FnOK; kernel_rfl) fun hok => ?_
  intro m h1
  rw [wrapU] at h1
  have h1 : m = k := by omega
  subst h1
  refine SpecP.mono (f65_spec b m hb (by omega) _) ?_
  rintro _ _ ⟨rfl, rfl⟩
  have hbk := mul_lt hb (y := m) (by omega)
  generalize hB : b * m = B at hbk
  intro m2 h2
  rw [wrapU] at h2
  have h2 : m2 = m := by omega
  subst h2
  intro n h3
  rw [wrapU] at h3
  intro q h4
  rw [wrapU] at h4
  refine Exists.intro [] (And.intro ?_ rfl)
  have e : (a * 18446744073709551616 + b) * m2 = a * m2 * 18446744073709551616 + B := by rw [Int.add_mul, hB, Int.mul_right_comm]
  rw [e]
  generalize a * m2 = A at h3
  exact wide_eq (a := q) (b := B % 18446744073709551616) (by omega) (by omega)
theorem f64_spec (a b c d : Int) (hb : 0 ≤ b ∧ b < 18446744073709551616) (hd : 0 ≤ d ∧ d < 18446744073709551616) (out : List Fr) :
    SpecP Try.prog 64 [.wide a b, .wide c d] out fun r ro => r = wideZ (a * 18446744073709551616 + b + (c * 18446744073709551616 + d)) ∧ ro = [] := by
  refine spec_body cxn_ok [] [] (fn := Try.f64) (by kernel_rfl) rfl (by kernel_rfl) rfl (by unfold FnOK; kernel_rfl) fun hok => ?_
  refine Exists.intro _ (And.intro (add64 hb.1 hd.1 (by decide)) ?_)
  intro m h1
  rw [wrapU] at h1
  intro n h2
  rw [wrapU] at h2
  refine Exists.intro [] (And.intro ?_ rfl)
  exact wide_eq (a := n) (b := (b + d + 0) % 18446744073709551616) (by omega) (by omega)
theorem f35_spec (a b c d : Int) (out : List Fr) : SpecP Try.prog 35 [.wide a b, .wide c d] out fun r ro => ∃ x : Bool, r = .bool x ∧ ro = [] := by
  refine spec_body cxn_ok [] [] (fn := Try.f35) (by kernel_rfl) rfl (by kernel_rfl) rfl (by unfold FnOK; kernel_rfl) fun hok => ?_
  refine And.intro (fun h1 => ?_) fun h1 => ?_
  · exact Exists.intro [] ⟨_, rfl, rfl⟩
  refine And.intro (fun h2 => ?_) fun h2 => ?_
  · refine And.intro (fun h3 => ?_) fun h3 => ?_
    · exact Exists.intro [] ⟨_, rfl, rfl⟩
    · exact Exists.intro [] ⟨_, rfl, rfl⟩
  · exact Exists.intro [] ⟨_, rfl, rfl⟩
end Go.Fw

/- Checks: the reference's sum of costs, its comparison; what is too far. -/
namespace Go.Fw
open Go Go.Proofs
set_option maxRecDepth 10000

def cAt (t : Task) (a : Nat) : Int := match t.acts[a]? with
  | some x => x.cost
  | none => 0
theorem cAt_eq {t : Task} {a : Nat} (h : a < t.acts.length) : cAt t a = t.acts[a].cost := by rw [cAt, List.getElem?_eq_getElem h]
def costS (t : Task) (w : List Int) (n : Nat) : Int := sumZ (fun a => wAt w a * cAt t a) n
theorem prod_in {x c : Int} (hx : 0 ≤ x ∧ x ≤ 1125899906842624) (hc : 0 ≤ c ∧ c ≤ 100000) : 0 ≤ x * c ∧ x * c ≤ 112589990684262400000 :=
  ⟨Int.mul_nonneg hx.1 hc.1, Int.le_trans (Int.mul_le_mul hx.2 hc.2 hc.1 (by decide)) (by decide)⟩
theorem costS_in {t : Task} {w : List Int} (hw : SmallT w) (hc : ∀ x ∈ t.acts, 0 ≤ x.cost ∧ x.cost ≤ 100000) : ∀ n : Nat, 0 ≤ costS t w n ∧ costS t w n ≤ 112589990684262400000 * (n : Int)
  | 0 => by rw [costS, sumZ]; omega
  | n + 1 => by
    have h := costS_in hw hc n
    have hca : 0 ≤ cAt t n ∧ cAt t n ≤ 100000 := by
      by_cases ha : n < t.acts.length
      · rw [cAt_eq ha]; exact hc _ (List.getElem_mem ha)
      · rw [cAt, List.getElem?_eq_none (by omega)]; decide
    have hp := prod_in (wAtT_in hw n) hca
    have e : costS t w (n + 1) = costS t w n + wAt w n * cAt t n := rfl
    rw [e]
    generalize wAt w n * cAt t n = P at hp
    omega
def od33 : Od := [(5, [(0, .pure), (1, .pure), (2, .pure), (3, .pure), (4, .pure), (5, .pure), (6, .pure), (7, .pure), (8, .pure), (9, .eff), (10, .eff), (11, .syn)])]
def kp33 : Kp := [(3, ([1, 4, 5, 9, 10, 11], [16, 32, 40]))]
theorem f33_spec (t : Task) (n1 : Bool) (w : List Int) (hl : w.length = t.acts.length) (hA : t.acts.length ≤ 1000) (hw : SmallT w) (hc : ∀ x ∈ t.acts, 0 ≤ x.cost ∧ x.cost ≤ 100000) (out : List Fr) :
    SpecP Try.prog 33 [.task t, .ints n1 w] out fun r ro => r = wideZ (costS t w t.acts.length) ∧ ro = [] := by
  refine spec_body cxn_ok kp33 od33 (fn := Try.f33) (by kernel_rfl) rfl (by kernel_rfl) rfl (by unfold FnOK; kernel_rfl) fun hok => ?_
  refine LoopW.mk (Nat × Int × Int) (fun u => u.1 ≤ t.acts.length ∧ u.2.1 = costS t w u.1 / 18446744073709551616 % 18446744073709551616 ∧ u.2.2 = costS t w u.1 % 18446744073709551616)
    (fun u => [(1, .ints n1 w), (4, .ptr (.cur 32) 0), (5, .ptr (.cur 40) 0), (9, .acts t.an t.acts), (10, .int (t.acts.map tAct).length), (11, .int u.1)])
    (fun u => ⟨out, [(16, .box (cellsTask t)), (32, .box [.u64 0, .u64 0]), (40, .box [.u64 u.2.1, .u64 u.2.2])]⟩) (fun u => t.acts.length - u.1) (0, 0, 0) ⟨Nat.zero_le _, rfl, rfl⟩ ⟨rfl, rfl⟩ ?_
  rintro ⟨a, u, v⟩ ⟨ha0, hu, hv⟩
  simp only at ha0 hu hv
  refine And.intro (fun h1 => ?_) fun h1 => ?_
  · have ha : a < t.acts.length := lt_of_dec h1
    have haw : a < w.length := by omega
    have hx := wAtT_in hw a
    have hgw : (w.map tI)[((a : Nat) : Int).toNat]? = some (tI (wAt w a)) := by rw [Int.toNat_natCast, List.getElem?_map, List.getElem?_eq_getElem haw, wAt_eq haw]; rfl
    have hca := hc _ (List.getElem_mem ha)
    have hp := prod_in hx hca
    have hcs := costS_in hw hc a
    have hcs1 := costS_in hw hc (a + 1)
    have hs : costS t w (a + 1) = costS t w a + wAt w a * t.acts[a].cost := by rw [← cAt_eq ha]; rfl
    refine And.intro (Int.natCast_nonneg _) (Exists.intro _ (And.intro (get_map ha) ?_))
    refine And.intro (Int.natCast_nonneg _) (Exists.intro _ (And.intro hgw ?_))
    intro m h2
    rw [wrapU] at h2
    have h2 : m = wAt w a := by omega
    subst h2
    refine SpecP.mono (f34_spec 0 _ t.acts[a].cost (by omega) (by omega) _) ?_
    rintro _ _ ⟨rfl, rfl⟩
    refine And.intro ⟨rfl, rfl, rfl⟩ ?_
    have e0 : (0 * 18446744073709551616 + wAt w a) * t.acts[a].cost = wAt w a * t.acts[a].cost := by rw [Int.zero_mul, Int.zero_add]
    refine SpecP.mono (f64_spec u v _ _ (by omega) (by omega) _) ?_
    rintro _ _ ⟨rfl, rfl⟩
    refine And.intro ⟨rfl, rfl, rfl⟩ ?_
    intro m2 hm
    have hm : m2 = (a : Int) + 1 := hm.trans (wrap64 (n := (a : Int) + 1) (by omega) (by omega))
    subst hm
    generalize hP : wAt w a * t.acts[a].cost = P at hp hs e0
    refine Exists.intro (a + 1, ((u * 18446744073709551616 + v + ((0 * 18446744073709551616 + wAt w a) * t.acts[a].cost / 18446744073709551616 % 18446744073709551616 * 18446744073709551616 + (0 * 18446744073709551616 + wAt w a) * t.acts[a].cost % 18446744073709551616)) / 18446744073709551616 % 18446744073709551616), ((u * 18446744073709551616 + v + ((0 * 18446744073709551616 + wAt w a) * t.acts[a].cost / 18446744073709551616 % 18446744073709551616 * 18446744073709551616 + (0 * 18446744073709551616 + wAt w a) * t.acts[a].cost % 18446744073709551616)) % 18446744073709551616)) (And.intro (by show t.acts.length - (a + 1) < t.acts.length - a; omega) (And.intro ⟨ha, ?_, ?_⟩ (And.intro rfl rfl)))
    all_goals
      simp only
      rw [e0, hs]
      omega
  · have ha : a = t.acts.length := by have := ge_of_dec h1; omega
    subst ha
    refine Exists.intro [] (And.intro ?_ rfl)
    exact wide_eq (a := u) (b := v) hu hv
end Go.Fw

/- Checks: the reference's comparison; what is too far. -/
namespace Go.Fw
open Go Go.Proofs
set_option maxRecDepth 10000

def eqZ (a b : Int) : Bool := (a / 18446744073709551616 % 18446744073709551616 == b / 18446744073709551616 % 18446744073709551616) && (a % 18446744073709551616 == b % 18446744073709551616)
theorem eqZ_comm (a b : Int) : eqZ a b = eqZ b a := by
  rw [eqZ, eqZ]; congr 1 <;> exact Bool.beq_comm
def od48 : Od := [(1, [(0, .pure), (1, .pure), (2, .pure), (3, .pure), (4, .pure), (5, .pure), (6, .pure), (8, .pure), (9, .pure), (7, .eff), (10, .eff), (11, .pure), (12, .pure), (13, .pure)])]
theorem f48_spec (v den N units : Int) (hv : v < 9223372036854775808) (hd : 0 ≤ den ∧ den < 9223372036854775808) (hu : 0 ≤ units ∧ units < 9223372036854775808) (hN : 0 ≤ N ∧ N < 340282366920938463463374607431768211456) (out : List Fr) :
    SpecP Try.prog 48 [.int v, .int den, wideZ N, .int units] out fun r ro => r = .bool (decide (0 ≤ v) && eqZ (v * units) (N * den)) ∧ ro = [] := by
  refine spec_body cxn_ok [] od48 (fn := Try.f48) (by kernel_rfl) rfl (by kernel_rfl) rfl (by unfold FnOK; kernel_rfl) fun hok => ?_
  refine And.intro (fun h1 => ?_) fun h1 => ?_
  · have h1' : 0 ≤ v := of_decide_eq_true h1
    intro m hm
    rw [wrapU] at hm
    have hm : m = v := by omega
    subst hm
    refine SpecP.mono (f34_spec 0 m units (by omega) hu _) ?_
    rintro _ _ ⟨rfl, rfl⟩
    refine And.intro ⟨rfl, rfl, rfl⟩ ?_
    refine SpecP.mono (f34_spec (N / 18446744073709551616 % 18446744073709551616) (N % 18446744073709551616) den (by omega) hd _) ?_
    rintro _ _ ⟨rfl, rfl⟩
    refine And.intro ⟨rfl, rfl, rfl⟩ ?_
    have e0 : (0 * 18446744073709551616 + m) * units = m * units := by rw [Int.zero_mul, Int.zero_add]
    have e1 : N / 18446744073709551616 % 18446744073709551616 * 18446744073709551616 + N % 18446744073709551616 = N := by omega
    refine And.intro (fun h2 => ?_) fun h2 => ?_
    all_goals
      rw [e0, e1, Bool.and_true] at h2
      exact Exists.intro [] (ret_bool (by rw [decide_eq_true h1', Bool.true_and]; exact h2) rfl)
  · refine Exists.intro [] (ret_bool ?_ rfl)
    have h1' : ¬ 0 ≤ v := of_decide_eq_false h1
    rw [decide_eq_false h1']; rfl
def kp15 : Kp := [(4, ([2, 3, 15, 16, 17], [16, 24]))]
theorem f15_spec (t : Task) (u : Int) (n1 : Bool) (w : List Int) (hA : t.acts.length ≤ 1000) (hc : ∀ x ∈ t.acts, 0 ≤ x.cost ∧ x.cost ≤ 100000) (out : List Fr) :
    SpecP Try.prog 15 [.task t, .flow u n1 w] out fun r ro => ∃ x : Bool, r = .bool x ∧ ro = [] := by
  refine spec_body cx_ok kp15 [] (fn := Try.f15) (by kernel_rfl) rfl (by kernel_rfl) rfl (by unfold FnOK; kernel_rfl) fun hok => ?_
  refine And.intro (fun h1 => ?_) fun h1 => ?_
  · exact Exists.intro [] ⟨_, rfl, rfl⟩
  have hl : w.length = t.acts.length := by simp at h1; omega
  refine LoopW.mk Nat (fun i => i ≤ w.length ∧ (w.take i).all okT = true) (fun i => [(2, .ptr (.cur 16) 0), (3, .ptr (.cur 24) 0), (15, .ints n1 w), (16, .int (w.map tI).length), (17, .int i)])
    (fun _ => ⟨out, [(16, .box (cellsTask t)), (24, .box (cellsFlow u n1 w))]⟩) (fun i => w.length - i) 0 ⟨Nat.zero_le _, rfl⟩ ⟨rfl, rfl⟩ ?_
  rintro i ⟨hi0, hall⟩
  refine And.intro (fun h3 => ?_) fun h3 => ?_
  · have hi : i < w.length := lt_of_dec h3
    refine And.intro (Int.natCast_nonneg _) (Exists.intro _ (And.intro (get_map hi) ?_))
    refine And.intro (fun h4 => ?_) fun h4 => ?_
    · exact Exists.intro [] ⟨_, rfl, rfl⟩
    refine And.intro (fun h5 => ?_) fun h5 => ?_
    · exact Exists.intro [] ⟨_, rfl, rfl⟩
    have h4' := of_decide_eq_false h4
    have h5' := of_decide_eq_false h5
    refine And.intro (by show (-9223372036854775808 : Int) ≤ (i : Int) + 1; omega) (And.intro (by show (i : Int) + 1 ≤ 9223372036854775807; omega) ?_)
    exact Exists.intro (i + 1) (And.intro (by show w.length - (i + 1) < w.length - i; omega) (And.intro ⟨hi, all_more hi hall (by simp [okT]; omega)⟩ (And.intro rfl rfl)))
  have hall : w.all okT = true := by
    have hi : i = w.length := by have := ge_of_dec h3; omega
    rw [hi, List.take_length] at hall; exact hall
  have hw : SmallT w := fun x hx => by
    have := List.all_eq_true.1 hall x hx
    simpa [okT] using this
  refine SpecP.mono (f33_spec t n1 w hl hA hw hc _) ?_
  rintro _ _ ⟨rfl, rfl⟩
  refine SpecP.mono (f35_spec _ _ _ _ _) ?_
  rintro _ _ ⟨x, rfl, rfl⟩
  refine And.intro (fun h4 => ?_) fun h4 => ?_
  · exact Exists.intro [] ⟨_, rfl, rfl⟩
  · exact Exists.intro [] ⟨_, rfl, rfl⟩
end Go.Fw

/- Checks: the program's comparison of costs. -/
namespace Go.Fw
open Go Go.Proofs
set_option maxRecDepth 10000

def od47 : Od := [(7, [(0, .pure), (1, .pure), (2, .pure), (3, .pure), (4, .pure), (5, .pure), (6, .pure), (7, .pure), (8, .pure), (9, .pure), (10, .eff), (11, .eff), (12, .syn)]), (9, [(0, .pure), (1, .pure), (2, .pure), (4, .pure), (5, .pure), (6, .pure), (7, .pure), (8, .pure), (3, .eff), (9, .eff), (10, .pure), (11, .pure)])]
def kp47 : Kp := [(5, ([2, 3, 5, 9, 15, 16, 17], [32, 40, 72]))]
theorem f47_spec (t : Task) (units : Int) (n1 : Bool) (w : List Int) (v den : Int) (hl : w.length = t.acts.length) (hA : t.acts.length ≤ 1000) (hw : SmallT w) (hc : ∀ x ∈ t.acts, 0 ≤ x.cost ∧ x.cost ≤ 100000)
    (hv : v < 9223372036854775808) (hd : 0 ≤ den ∧ den < 9223372036854775808) (hu : 0 ≤ units ∧ units < 9223372036854775808) (out : List Fr) :
    SpecP Try.prog 47 [.task t, .flow units n1 w, .int v, .int den] out fun r ro => r = .bool (decide (0 ≤ v) && eqZ (costS t w t.acts.length * den) (v * units)) ∧ ro = [] := by
  refine spec_body cxn_ok kp47 od47 (fn := Try.f47) (by kernel_rfl) rfl (by kernel_rfl) rfl (by unfold FnOK; kernel_rfl) fun hok => ?_
  refine And.intro (fun h0 => ?_) fun h0 => ?_
  · have h0' : v < 0 := of_decide_eq_true h0
    exact Exists.intro [] (ret_bool (by rw [decide_eq_false (by omega)]; rfl) rfl)
  have h0' : ¬ v < 0 := of_decide_eq_false h0
  refine LoopW.mk (Nat × Int × Int) (fun u => u.1 ≤ t.acts.length ∧ u.2.1 = costS t w u.1 / 18446744073709551616 % 18446744073709551616 ∧ u.2.2 = costS t w u.1 % 18446744073709551616)
    (fun u => [(2, .int v), (3, .int den), (5, .ptr (.cur 40) 0), (9, .ptr (.cur 72) 0), (15, .acts t.an t.acts), (16, .int (t.acts.map tAct).length), (17, .int u.1)])
    (fun u => ⟨out, [(32, .box (cellsTask t)), (40, .box (cellsFlow units n1 w)), (72, .box [.u64 u.2.1, .u64 u.2.2])]⟩) (fun u => t.acts.length - u.1) (0, 0, 0) ⟨Nat.zero_le _, rfl, rfl⟩ ⟨rfl, rfl⟩ ?_
  rintro ⟨a, u, q⟩ ⟨ha0, hx1, hq⟩
  simp only at ha0 hx1 hq
  refine And.intro (fun h1 => ?_) fun h1 => ?_
  · have ha : a < t.acts.length := lt_of_dec h1
    have haw : a < w.length := by omega
    have hx := wAtT_in hw a
    have hgw : (w.map tI)[((a : Nat) : Int).toNat]? = some (tI (wAt w a)) := by rw [Int.toNat_natCast, List.getElem?_map, List.getElem?_eq_getElem haw, wAt_eq haw]; rfl
    have hca := hc _ (List.getElem_mem ha)
    have hp := prod_in hx hca
    have hcs := costS_in hw hc a
    have hs : costS t w (a + 1) = costS t w a + wAt w a * t.acts[a].cost := by rw [← cAt_eq ha]; rfl
    refine And.intro (Int.natCast_nonneg _) (Exists.intro _ (And.intro (get_map ha) ?_))
    intro m0 h2
    rw [wrapU] at h2
    have h2 : m0 = t.acts[a].cost := by omega
    subst h2
    refine And.intro (Int.natCast_nonneg _) (Exists.intro _ (And.intro hgw ?_))
    intro m h2
    rw [wrapU] at h2
    have h2 : m = wAt w a := by omega
    subst h2
    refine SpecP.mono (f90_spec t.acts[a].cost _ (by omega) (by omega) _) ?_
    rintro _ _ ⟨rfl, rfl⟩
    refine And.intro ⟨rfl, rfl, rfl⟩ ?_
    have e0 : t.acts[a].cost * wAt w a = wAt w a * t.acts[a].cost := Int.mul_comm _ _
    refine SpecP.mono (f89_spec u q _ _ (by omega) (by omega) (by omega) (by omega) _) ?_
    rintro _ _ ⟨rfl, rfl⟩
    refine And.intro ⟨rfl, rfl, rfl⟩ ?_
    intro m2 hm
    have hm : m2 = (a : Int) + 1 := hm.trans (wrap64 (n := (a : Int) + 1) (by omega) (by omega))
    subst hm
    generalize hP : wAt w a * t.acts[a].cost = P at hp hs e0
    refine Exists.intro (a + 1, ((u * 18446744073709551616 + q + (t.acts[a].cost * wAt w a / 18446744073709551616 % 18446744073709551616 * 18446744073709551616 + t.acts[a].cost * wAt w a % 18446744073709551616)) / 18446744073709551616 % 18446744073709551616), ((u * 18446744073709551616 + q + (t.acts[a].cost * wAt w a / 18446744073709551616 % 18446744073709551616 * 18446744073709551616 + t.acts[a].cost * wAt w a % 18446744073709551616)) % 18446744073709551616)) (And.intro (by show t.acts.length - (a + 1) < t.acts.length - a; omega) (And.intro ⟨ha, ?_, ?_⟩ (And.intro rfl rfl)))
    all_goals
      simp only
      rw [e0, hs]
      omega
  · have ha : a = t.acts.length := by have := ge_of_dec h1; omega
    rw [ha] at hx1 hq
    have hcs := costS_in hw hc t.acts.length
    generalize costS t w t.acts.length = N at hx1 hq hcs
    have e1 : u * 18446744073709551616 + q = N := by omega
    intro m0 h2
    rw [wrapU] at h2
    have h2 : m0 = den := by omega
    subst h2
    intro m1 h2
    rw [wrapU] at h2
    have h2 : m1 = v := by omega
    subst h2
    intro m2 h2
    rw [wrapU] at h2
    have h2 : m2 = units := by omega
    subst h2
    refine SpecP.mono (f91_spec u q m0 (by omega) (by omega) _) ?_
    rintro _ _ ⟨rfl, rfl⟩
    refine And.intro ⟨rfl, rfl, rfl⟩ ?_
    refine SpecP.mono (f90_spec m1 m2 (by omega) (by omega) _) ?_
    rintro _ _ ⟨rfl, rfl⟩
    refine And.intro ⟨rfl, rfl, rfl⟩ ?_
    refine And.intro (fun h2 => ?_) fun h2 => ?_
    all_goals
      rw [e1, Bool.and_true] at h2
      exact Exists.intro [] (ret_bool (by rw [decide_eq_true (by omega), Bool.true_and]; exact h2) rfl)
end Go.Fw

/- Checks: Check of the program, right of the law. -/
namespace Go.Fw
open Go Go.Proofs
set_option maxRecDepth 10000

abbrev LV.verd (b : Bool) (den c : Int) (n1 : Bool) (w : List Int) (u : Int) (n2 : Bool) (x : List Int) : LV := .agg [.bool b, .int den, .int c, .ints n1 w, .int u, .ints n2 x]
abbrev cellsVerd (b : Bool) (den c : Int) (n1 : Bool) (w : List Int) (u : Int) (n2 : Bool) (x : List Int) : List LV := [.bool b, .int den, .int c, .ints n1 w, .int u, .ints n2 x]
def chkB (t : Task) (s : List Int) (b : Bool) (den c : Int) (w : List Int) (u : Int) (x : List Int) : Bool := match b with
  | true => rightR t den c w && (flowRB t s u x && (decide (0 ≤ valueF s c w) && eqZ (valueF s c w * u) (costS t x t.acts.length * den)))
  | false => freeR t c w && (decide (valueF s c w > 0) && (u == 0 && x.length == 0))
theorem flowRB_ok {t : Task} {s : List Int} {u : Int} {x : List Int} (h : flowRB t s u x = true) : (1 ≤ u ∧ u ≤ 1073741824) ∧ x.length = t.acts.length ∧ SmallT x := by
  simp only [flowRB, Bool.and_eq_true, decide_eq_true_eq, beq_iff_eq] at h
  refine ⟨h.1.1.1, h.1.1.2, fun y hy => ?_⟩
  have := List.all_eq_true.1 h.1.2 y hy
  simpa [okT] using this
theorem fine_ok {t : Task} {s : List Int} (h : fineI t s = 0) : isB t = true ∧ risingB s t.facts.length = true := by
  unfold fineI at h
  split at h
  · rename_i hb
    split at h
    · rename_i hr; exact ⟨hb, hr⟩
    · exact absurd h (by decide)
  · exact absurd h (by decide)
theorem f13_spec (t : Task) (n0 : Bool) (s : List Int) (b : Bool) (den c : Int) (n1 : Bool) (w : List Int) (u : Int) (n2 : Bool) (x : List Int) (hl : s.length ≤ 1000) (out : List Fr) :
    SpecP Try.prog 13 [.task t, .ints n0 s, .verd b den c n1 w u n2 x] out fun r ro => (r = if fineI t s = 0 then (match plainB t with
      | true => (match isPotB t.facts.length den c w with
        | true => .tup [.bool (chkB t s b den c w u x), .int 0]
        | false => .tup [.bool false, .int 0])
      | false => .tup [.bool false, .int 1]) else .tup [.bool false, .int (fineI t s)]) ∧ ro = [] := by
  refine spec_body cx_ok [] [] (fn := Try.f13) (by kernel_rfl) rfl (by kernel_rfl) rfl (by unfold FnOK; kernel_rfl) fun hok => ?_
  refine SpecP.mono (f37_spec t n0 s _) ?_
  rintro _ _ ⟨rfl, rfl⟩
  refine And.intro (fun h1 => ?_) fun h1 => ?_
  · have h1' : ¬ fineI t s = 0 := by simpa using h1
    refine Exists.intro [] (And.intro ?_ rfl)
    rw [if_neg h1']; rfl
  have h1' : fineI t s = 0 := by simpa using h1
  obtain ⟨hB, hR⟩ := fine_ok h1'
  have TK := task_ok hB
  refine SpecP.mono (f38_spec t _) ?_
  rintro _ _ ⟨rfl, rfl⟩
  refine And.intro (fun h2 => ?_) fun h2 => ?_
  rotate_left
  · refine Exists.intro [] (And.intro ?_ rfl)
    rw [if_pos h1', h2]; rfl
  refine SpecP.mono (f43_spec t den c n1 w _) ?_
  rintro _ _ ⟨rfl, rfl⟩
  refine And.intro (fun h3 => ?_) fun h3 => ?_
  rotate_left
  · refine Exists.intro [] (And.intro ?_ rfl)
    rw [if_pos h1', h2, h3]; rfl
  obtain ⟨hd, hc, hwl, hw⟩ := pot_ok h3
  obtain ⟨er, ef⟩ := right_eq hB (den := den) (c := c) hwl
  refine SpecP.mono (f44_spec t den c n1 w TK ⟨by omega, hd.2⟩ hc hw hwl _) ?_
  rintro _ _ ⟨rfl, rfl⟩
  rw [er, ef]
  have hs := rising_in hR
  have hvb := value_b (s := s) hw hc hl
  have hs' : ∀ y ∈ s, 0 ≤ y ∧ y < (w.length : Int) := fun y hy => by rw [hwl]; exact hs y hy
  have fin : ∀ y : Bool, chkB t s b den c w u x = y → (LV.tup [.bool y, .int 0] = if fineI t s = 0 then (match plainB t with
      | true => (match isPotB t.facts.length den c w with
        | true => .tup [.bool (chkB t s b den c w u x), .int 0]
        | false => .tup [.bool false, .int 0])
      | false => .tup [.bool false, .int 1]) else .tup [.bool false, .int (fineI t s)]) := fun y hy => by rw [if_pos h1', h2, h3, hy]
  cases b with
  | true =>
    refine And.intro (fun hr => ?_) fun hr => ?_
    · refine And.intro (fun hf => ?_) fun hf => ?_
      all_goals
        refine SpecP.mono (f45_spec n0 n1 s w den c hs' hl hw hc _) ?_
        rintro _ _ ⟨rfl, rfl⟩
        repeat' (first | refine And.intro (fun h => absurd h (by decide)) (fun _ => ?_) | refine And.intro (fun _ => ?_) (fun h => absurd h (by decide)) | fail)
        refine SpecP.mono (f46_spec t n0 s u n2 x TK.facts TK.acts hs TK.goal TK.pre TK.lit _) ?_
        rintro _ _ ⟨rfl, rfl⟩
        rw [flow_eq hB]
        refine And.intro (fun h5 => ?_) fun h5 => ?_
        · obtain ⟨hu, hxl, hxs⟩ := flowRB_ok h5
          refine SpecP.mono (f47_spec t u n2 x (valueF s c w) den hxl TK.acts hxs TK.cost (by omega) (by omega) (by omega) _) ?_
          rintro _ _ ⟨rfl, rfl⟩
          rw [eqZ_comm]
          refine And.intro (fun h6 => ?_) fun h6 => ?_
          all_goals
            exact Exists.intro [] (And.intro (fin _ (by rw [chkB, hr, h5, h6]; rfl)) rfl)
        · exact Exists.intro [] (And.intro (fin _ (by rw [chkB, hr, h5]; rfl)) rfl)
    · refine And.intro (fun hf => ?_) fun hf => ?_
      all_goals
        refine SpecP.mono (f45_spec n0 n1 s w den c hs' hl hw hc _) ?_
        rintro _ _ ⟨rfl, rfl⟩
        repeat' (first | refine And.intro (fun h => absurd h (by decide)) (fun _ => ?_) | refine And.intro (fun _ => ?_) (fun h => absurd h (by decide)) | fail)
        exact Exists.intro [] (And.intro (fin _ (by rw [chkB, hr]; rfl)) rfl)
  | false =>
    refine And.intro (fun hr => ?_) fun hr => ?_
    all_goals
      refine And.intro (fun hf => ?_) fun hf => ?_
      · refine SpecP.mono (f45_spec n0 n1 s w den c hs' hl hw hc _) ?_
        rintro _ _ ⟨rfl, rfl⟩
        repeat' (first | refine And.intro (fun h => absurd h (by decide)) (fun _ => ?_) | refine And.intro (fun _ => ?_) (fun h => absurd h (by decide)) | fail)
        refine And.intro (fun h5 => ?_) fun h5 => ?_
        · refine And.intro (fun h6 => ?_) fun h6 => ?_
          · refine And.intro (fun h7 => ?_) fun h7 => ?_
            · refine Exists.intro [] (And.intro (fin _ (by
                have h7' : (x.length == 0) = true := by simp at h7; simp [h7]
                rw [chkB, hf, h5, h6, h7']; rfl)) rfl)
            · refine Exists.intro [] (And.intro (fin _ (by
                have h7' : (x.length == 0) = false := by simp at h7; simp [h7]
                rw [chkB, hf, h5, h6, h7']; rfl)) rfl)
          · exact Exists.intro [] (And.intro (fin _ (by rw [chkB, hf, h5, h6]; rfl)) rfl)
        · exact Exists.intro [] (And.intro (fin _ (by rw [chkB, hf, h5]; rfl)) rfl)
      · refine SpecP.mono (f45_spec n0 n1 s w den c hs' hl hw hc _) ?_
        rintro _ _ ⟨rfl, rfl⟩
        repeat' (first | refine And.intro (fun h => absurd h (by decide)) (fun _ => ?_) | refine And.intro (fun _ => ?_) (fun h => absurd h (by decide)) | fail)
        exact Exists.intro [] (And.intro (fin _ (by rw [chkB, hf]; rfl)) rfl)
end Go.Fw

/- Checks: right, of the law. -/
namespace Go.Fw
open Go Go.Proofs
set_option maxRecDepth 10000

def od14 : Od := [(1, [(0, .tree (.pure 0 (.pure 1 (.pure 2 (.pure 3 (.fork 4 (.eff 5 (.last 6 (.last 7 .done []) [2, 3])) [0, 1, 2, 3] (.last 5 (.eff 4 (.last 6 (.last 7 .done []) [2, 3])) [0, 1, 2, 3])))))))]), (8, [(0, .pure), (1, .pure), (2, .pure), (3, .pure), (4, .pure), (5, .pure), (6, .pure), (7, .pure), (8, .eff), (9, .pure), (10, .pure), (11, .pure), (12, .pure), (13, .pure), (14, .pure), (15, .pure), (16, .pure), (18, .pure), (19, .pure), (17, .eff), (20, .eff), (21, .pure), (22, .pure)])]
set_option maxHeartbeats 1000000 in
theorem f14_spec (t : Task) (n0 : Bool) (s : List Int) (b : Bool) (den c : Int) (n1 : Bool) (w : List Int) (u : Int) (n2 : Bool) (x : List Int) (hl : s.length ≤ 1000) (hB : isB t = true) (hR : risingB s t.facts.length = true) (out : List Fr) :
    SpecP Try.prog 14 [.task t, .ints n0 s, .verd b den c n1 w u n2 x] out fun r ro => r = .bool (isPotB t.facts.length den c w && chkB t s b den c w u x) ∧ ro = [] := by
  refine spec_body cx_ok [] od14 (fn := Try.f14) (by kernel_rfl) rfl (by kernel_rfl) rfl (by unfold FnOK; kernel_rfl) fun hok => ?_
  have TK := task_ok hB
  have hs := rising_in hR
  repeat' (first
    | refine And.intro rfl ?_
    | refine And.intro ?_ ?_
    | fail)
  all_goals
    refine SpecP.mono (f28_spec t den c n1 w _) ?_
    rintro _ _ ⟨rfl, rfl⟩
    refine And.intro (fun h3 => ?_) fun h3 => ?_
    rotate_left
    · exact Exists.intro [] (ret_bool (by rw [h3]; rfl) rfl)
    obtain ⟨hd, hc, hwl, hw⟩ := pot_ok h3
    have hf200 := TK.facts
    refine SpecP.mono (f29_spec t den c n1 w TK.cost ⟨by omega, hd.2⟩ hc hw (by omega) _) ?_
    rintro _ _ ⟨rfl, rfl⟩
    have hvb := value_b (s := s) hw hc hl
    have hs' : ∀ y ∈ s, 0 ≤ y ∧ y < (w.length : Int) := fun y hy => by rw [hwl]; exact hs y hy
    have fin : ∀ y : Bool, chkB t s b den c w u x = y → (isPotB t.facts.length den c w && chkB t s b den c w u x) = y := fun y hy => by rw [h3, hy]; rfl
    cases b with
    | true =>
      refine And.intro (fun hr => ?_) fun hr => ?_
      · refine And.intro (fun hf => ?_) fun hf => ?_
        all_goals
          refine SpecP.mono (f30_spec n0 n1 s w c hs' hl hw hc _) ?_
          rintro _ _ ⟨rfl, rfl⟩
          repeat' (first | refine And.intro (fun h => absurd h (by decide)) (fun _ => ?_) | refine And.intro (fun _ => ?_) (fun h => absurd h (by decide)) | fail)
          refine SpecP.mono (f22_spec t n0 s u n2 x TK.facts TK.acts _) ?_
          rintro _ _ ⟨rfl, rfl⟩
          refine And.intro ⟨rfl, rfl, rfl⟩ ?_
          refine And.intro (fun h5 => ?_) fun h5 => ?_
          · obtain ⟨hu, hxl, hxs⟩ := flowRB_ok h5
            have hcs := costS_in hxs TK.cost t.acts.length
            have hacts := TK.acts
            refine SpecP.mono (f33_spec t n2 x hxl TK.acts hxs TK.cost _) ?_
            rintro _ _ ⟨rfl, rfl⟩
            refine And.intro ⟨rfl, rfl, rfl⟩ ?_
            refine SpecP.mono (f48_spec (valueF s c w) den (costS t x t.acts.length) u (by omega) (by omega) (by omega) (by omega) _) ?_
            rintro _ _ ⟨rfl, rfl⟩
            refine And.intro ⟨rfl, rfl, rfl⟩ ?_
            refine And.intro (fun h6 => ?_) fun h6 => ?_
            all_goals
              exact Exists.intro [] (ret_bool (fin _ (by rw [chkB, hr, h5, h6]; rfl)) rfl)
          · exact Exists.intro [] (ret_bool (fin _ (by rw [chkB, hr, h5]; rfl)) rfl)
      · refine And.intro (fun hf => ?_) fun hf => ?_
        all_goals
          refine SpecP.mono (f30_spec n0 n1 s w c hs' hl hw hc _) ?_
          rintro _ _ ⟨rfl, rfl⟩
          repeat' (first | refine And.intro (fun h => absurd h (by decide)) (fun _ => ?_) | refine And.intro (fun _ => ?_) (fun h => absurd h (by decide)) | fail)
          exact Exists.intro [] (ret_bool (fin _ (by rw [chkB, hr]; rfl)) rfl)
    | false =>
      refine And.intro (fun hr => ?_) fun hr => ?_
      all_goals
        refine And.intro (fun hf => ?_) fun hf => ?_
        · refine SpecP.mono (f30_spec n0 n1 s w c hs' hl hw hc _) ?_
          rintro _ _ ⟨rfl, rfl⟩
          repeat' (first | refine And.intro (fun h => absurd h (by decide)) (fun _ => ?_) | refine And.intro (fun _ => ?_) (fun h => absurd h (by decide)) | fail)
          refine And.intro (fun h5 => ?_) fun h5 => ?_
          · refine And.intro (fun h6 => ?_) fun h6 => ?_
            · refine And.intro (fun h7 => ?_) fun h7 => ?_
              · refine Exists.intro [] (ret_bool (fin _ (by
                  have h7' : (x.length == 0) = true := by simp at h7; simp [h7]
                  rw [chkB, hf, h5, h6, h7']; rfl)) rfl)
              · refine Exists.intro [] (ret_bool (fin _ (by
                  have h7' : (x.length == 0) = false := by simp at h7; simp [h7]
                  rw [chkB, hf, h5, h6, h7']; rfl)) rfl)
            · exact Exists.intro [] (ret_bool (fin _ (by rw [chkB, hf, h5, h6]; rfl)) rfl)
          · exact Exists.intro [] (ret_bool (fin _ (by rw [chkB, hf, h5]; rfl)) rfl)
        · refine SpecP.mono (f30_spec n0 n1 s w c hs' hl hw hc _) ?_
          rintro _ _ ⟨rfl, rfl⟩
          repeat' (first | refine And.intro (fun h => absurd h (by decide)) (fun _ => ?_) | refine And.intro (fun _ => ?_) (fun h => absurd h (by decide)) | fail)
          exact Exists.intro [] (ret_bool (fin _ (by rw [chkB, hf]; rfl)) rfl)
end Go.Fw

/- The law: checks. -/
namespace Go.Fw
open Go Go.Proofs
set_option maxRecDepth 10000

def od4 : Od := [(4, [(0, .pure), (1, .pure), (2, .pure), (3, .eff), (4, .eff), (5, .pure)])]
set_option maxHeartbeats 4000000 in
theorem f4_spec (t : Task) (n0 : Bool) (s : List Int) (b : Bool) (den c : Int) (n1 : Bool) (w : List Int) (u : Int) (n2 : Bool) (x : List Int) (out : List Fr) : SpecP Try.prog 4 [.task t, .ints n0 s, .verd b den c n1 w u n2 x] out fun r ro => r = .bool true ∧ ro = [] := by
  refine spec_body cx_ok [] od4 (fn := Try.f4) (by kernel_rfl) rfl (by kernel_rfl) rfl (by unfold FnOK; kernel_rfl) fun hok => ?_
  refine SpecP.mono (f8_spec t 300 _) ?_
  rintro _ _ ⟨z, rfl, rfl⟩
  refine And.intro (fun h1 => ?_) fun h1 => ?_
  rotate_left
  · refine SpecP.mono (f9_spec _) ?_
    rintro _ _ ⟨rfl, rfl⟩
    refine And.intro (fun _ => ?_) fun h => absurd h (by decide)
    exact Exists.intro [] (And.intro rfl rfl)
  refine And.intro (fun h2 => ?_) fun h2 => ?_
  · refine SpecP.mono (f9_spec _) ?_
    rintro _ _ ⟨rfl, rfl⟩
    refine And.intro (fun _ => ?_) fun h => absurd h (by decide)
    exact Exists.intro [] (And.intro rfl rfl)
  refine And.intro (fun h3 => ?_) fun h3 => ?_
  · refine SpecP.mono (f9_spec _) ?_
    rintro _ _ ⟨rfl, rfl⟩
    refine And.intro (fun _ => ?_) fun h => absurd h (by decide)
    exact Exists.intro [] (And.intro rfl rfl)
  refine And.intro (fun h4 => ?_) fun h4 => ?_
  · refine SpecP.mono (f9_spec _) ?_
    rintro _ _ ⟨rfl, rfl⟩
    refine And.intro (fun _ => ?_) fun h => absurd h (by decide)
    exact Exists.intro [] (And.intro rfl rfl)
  have hls := len300 h2
  have hl : s.length ≤ 1000 := by omega
  clear h1 h2 h3 h4
  refine SpecP.mono (f13_spec t n0 s b den c n1 w u n2 x hl _) ?_
  rintro _ _ ⟨hr, rfl⟩
  cases hB : isB t with
  | false =>
    have hfine : fineI t s = 10 := by rw [fineI, hB]; rfl
    have hchk : checkI t s = 10 := by rw [checkI, hB]
    rw [hfine, if_neg (by decide)] at hr
    subst hr
    repeat' (first | refine And.intro (fun h => absurd h (by decide)) (fun _ => ?_) | refine And.intro (fun _ => ?_) (fun h => absurd h (by decide)) | fail)
    refine SpecP.mono (f12_spec t n0 s _) ?_
    rintro _ _ ⟨hr, rfl⟩
    rw [hchk] at hr
    subst hr
    refine And.intro ⟨rfl, rfl, rfl⟩ ?_
    refine SpecP.mono (f11_spec t 10 _) ?_
    rintro _ _ ⟨hr, rfl⟩
    rw [if_neg (fun h => absurd h.1 (by decide))] at hr
    subst hr
    refine And.intro ⟨rfl, rfl, rfl⟩ ?_
    repeat' (first | refine And.intro (fun h => absurd h (by decide)) (fun _ => ?_) | refine And.intro (fun _ => ?_) (fun h => absurd h (by decide)) | fail)
    refine SpecP.mono (f9_spec _) ?_
    rintro _ _ ⟨rfl, rfl⟩
    refine And.intro (fun _ => ?_) fun h => absurd h (by decide)
    exact Exists.intro [] (And.intro rfl rfl)
  | true =>
    have TK := task_ok hB
    have hfine : fineI t s = (if risingB s t.facts.length then 0 else 20) := by rw [fineI, hB]; rfl
    have hchk : checkI t s = (if risingB s t.facts.length then 0 else 20) := by rw [checkI, hB]; cases risingB s t.facts.length <;> rfl
    cases hR : risingB s t.facts.length with
    | false =>
      rw [hR] at hfine hchk
      rw [if_neg (by decide)] at hfine hchk
      rw [hfine, if_neg (by decide)] at hr
      subst hr
      repeat' (first | refine And.intro (fun h => absurd h (by decide)) (fun _ => ?_) | refine And.intro (fun _ => ?_) (fun h => absurd h (by decide)) | fail)
      refine SpecP.mono (f12_spec t n0 s _) ?_
      rintro _ _ ⟨hr, rfl⟩
      rw [hchk] at hr
      subst hr
      refine And.intro ⟨rfl, rfl, rfl⟩ ?_
      refine SpecP.mono (f11_spec t 20 _) ?_
      rintro _ _ ⟨hr, rfl⟩
      rw [if_neg (fun h => absurd h.1 (by decide))] at hr
      subst hr
      refine And.intro ⟨rfl, rfl, rfl⟩ ?_
      repeat' (first | refine And.intro (fun h => absurd h (by decide)) (fun _ => ?_) | refine And.intro (fun _ => ?_) (fun h => absurd h (by decide)) | fail)
      refine SpecP.mono (f9_spec _) ?_
      rintro _ _ ⟨rfl, rfl⟩
      refine And.intro (fun _ => ?_) fun h => absurd h (by decide)
      exact Exists.intro [] (And.intro rfl rfl)
    | true =>
      rw [hR] at hfine hchk
      rw [if_pos rfl] at hfine hchk
      rw [hfine, if_pos rfl] at hr
      cases hP : plainB t with
      | false =>
        rw [hP] at hr
        subst hr
        repeat' (first | refine And.intro (fun h => absurd h (by decide)) (fun _ => ?_) | refine And.intro (fun _ => ?_) (fun h => absurd h (by decide)) | fail)
        refine SpecP.mono (f12_spec t n0 s _) ?_
        rintro _ _ ⟨hr, rfl⟩
        rw [hchk] at hr
        subst hr
        refine And.intro ⟨rfl, rfl, rfl⟩ ?_
        refine SpecP.mono (f11_spec t 0 _) ?_
        rintro _ _ ⟨hr, rfl⟩
        rw [if_pos ⟨rfl, hP⟩] at hr
        subst hr
        refine And.intro ⟨rfl, rfl, rfl⟩ ?_
        repeat' (first | refine And.intro (fun h => absurd h (by decide)) (fun _ => ?_) | refine And.intro (fun _ => ?_) (fun h => absurd h (by decide)) | fail)
        refine SpecP.mono (f9_spec _) ?_
        rintro _ _ ⟨rfl, rfl⟩
        refine And.intro (fun _ => ?_) fun h => absurd h (by decide)
        exact Exists.intro [] (And.intro rfl rfl)
      | true =>
        rw [hP] at hr
        cases hQ : isPotB t.facts.length den c w with
        | false =>
          rw [hQ] at hr
          subst hr
          repeat' (first | refine And.intro (fun h => absurd h (by decide)) (fun _ => ?_) | refine And.intro (fun _ => ?_) (fun h => absurd h (by decide)) | fail)
          refine SpecP.mono (f12_spec t n0 s _) ?_
          rintro _ _ ⟨hr, rfl⟩
          rw [hchk] at hr
          subst hr
          refine And.intro ⟨rfl, rfl, rfl⟩ ?_
          refine SpecP.mono (f11_spec t 0 _) ?_
          rintro _ _ ⟨hr, rfl⟩
          rw [if_neg (fun h => by rw [hP] at h; exact absurd h.2 (by decide))] at hr
          subst hr
          refine And.intro ⟨rfl, rfl, rfl⟩ ?_
          repeat' (first | refine And.intro (fun h => absurd h (by decide)) (fun _ => ?_) | refine And.intro (fun _ => ?_) (fun h => absurd h (by decide)) | fail)
          refine SpecP.mono (f15_spec t u n2 x TK.acts TK.cost _) ?_
          rintro _ _ ⟨y, rfl, rfl⟩
          refine And.intro (fun hy => ?_) fun hy => ?_
          · refine SpecP.mono (f9_spec _) ?_
            rintro _ _ ⟨rfl, rfl⟩
            refine And.intro (fun _ => ?_) fun h => absurd h (by decide)
            exact Exists.intro [] (And.intro rfl rfl)
          refine SpecP.mono (f14_spec t n0 s b den c n1 w u n2 x hl hB hR _) ?_
          rintro _ _ ⟨hr, rfl⟩
          rw [hQ, Bool.false_and] at hr
          subst hr
          repeat' (first | refine And.intro (fun h => absurd h (by decide)) (fun _ => ?_) | refine And.intro (fun _ => ?_) (fun h => absurd h (by decide)) | fail)
          refine SpecP.mono (f9_spec _) ?_
          rintro _ _ ⟨rfl, rfl⟩
          refine And.intro (fun _ => ?_) fun h => absurd h (by decide)
          exact Exists.intro [] (And.intro rfl rfl)
        | true =>
          rw [hQ] at hr
          cases hK : chkB t s b den c w u x with
          | false =>
            rw [hK] at hr
            subst hr
            repeat' (first | refine And.intro (fun h => absurd h (by decide)) (fun _ => ?_) | refine And.intro (fun _ => ?_) (fun h => absurd h (by decide)) | fail)
            refine SpecP.mono (f12_spec t n0 s _) ?_
            rintro _ _ ⟨hr, rfl⟩
            rw [hchk] at hr
            subst hr
            refine And.intro ⟨rfl, rfl, rfl⟩ ?_
            refine SpecP.mono (f11_spec t 0 _) ?_
            rintro _ _ ⟨hr, rfl⟩
            rw [if_neg (fun h => by rw [hP] at h; exact absurd h.2 (by decide))] at hr
            subst hr
            refine And.intro ⟨rfl, rfl, rfl⟩ ?_
            repeat' (first | refine And.intro (fun h => absurd h (by decide)) (fun _ => ?_) | refine And.intro (fun _ => ?_) (fun h => absurd h (by decide)) | fail)
            refine SpecP.mono (f15_spec t u n2 x TK.acts TK.cost _) ?_
            rintro _ _ ⟨y, rfl, rfl⟩
            refine And.intro (fun hy => ?_) fun hy => ?_
            · refine SpecP.mono (f9_spec _) ?_
              rintro _ _ ⟨rfl, rfl⟩
              refine And.intro (fun _ => ?_) fun h => absurd h (by decide)
              exact Exists.intro [] (And.intro rfl rfl)
            refine SpecP.mono (f14_spec t n0 s b den c n1 w u n2 x hl hB hR _) ?_
            rintro _ _ ⟨hr, rfl⟩
            rw [hQ, hK, Bool.true_and] at hr
            subst hr
            repeat' (first | refine And.intro (fun h => absurd h (by decide)) (fun _ => ?_) | refine And.intro (fun _ => ?_) (fun h => absurd h (by decide)) | fail)
            refine SpecP.mono (f9_spec _) ?_
            rintro _ _ ⟨rfl, rfl⟩
            refine And.intro (fun _ => ?_) fun h => absurd h (by decide)
            exact Exists.intro [] (And.intro rfl rfl)
          | true =>
            rw [hK] at hr
            subst hr
            repeat' (first | refine And.intro (fun h => absurd h (by decide)) (fun _ => ?_) | refine And.intro (fun _ => ?_) (fun h => absurd h (by decide)) | fail)
            refine SpecP.mono (f12_spec t n0 s _) ?_
            rintro _ _ ⟨hr, rfl⟩
            rw [hchk] at hr
            subst hr
            refine And.intro ⟨rfl, rfl, rfl⟩ ?_
            refine SpecP.mono (f11_spec t 0 _) ?_
            rintro _ _ ⟨hr, rfl⟩
            rw [if_neg (fun h => by rw [hP] at h; exact absurd h.2 (by decide))] at hr
            subst hr
            refine And.intro ⟨rfl, rfl, rfl⟩ ?_
            repeat' (first | refine And.intro (fun h => absurd h (by decide)) (fun _ => ?_) | refine And.intro (fun _ => ?_) (fun h => absurd h (by decide)) | fail)
            refine SpecP.mono (f15_spec t u n2 x TK.acts TK.cost _) ?_
            rintro _ _ ⟨y, rfl, rfl⟩
            refine And.intro (fun hy => ?_) fun hy => ?_
            · refine SpecP.mono (f9_spec _) ?_
              rintro _ _ ⟨rfl, rfl⟩
              refine And.intro (fun _ => ?_) fun h => absurd h (by decide)
              exact Exists.intro [] (And.intro rfl rfl)
            refine SpecP.mono (f14_spec t n0 s b den c n1 w u n2 x hl hB hR _) ?_
            rintro _ _ ⟨hr, rfl⟩
            rw [hQ, hK, Bool.true_and] at hr
            subst hr
            repeat' (first | refine And.intro (fun h => absurd h (by decide)) (fun _ => ?_) | refine And.intro (fun _ => ?_) (fun h => absurd h (by decide)) | fail)
            refine SpecP.mono (f9_spec _) ?_
            rintro _ _ ⟨rfl, rfl⟩
            refine And.intro (fun _ => ?_) fun h => absurd h (by decide)
            exact Exists.intro [] (And.intro rfl rfl)
end Go.Fw

/- The row: verdicts that can be read are closed data. -/
namespace Go.Fw
open Go Go.Proofs Go.ChangeShapes Go.WideShapes Go.ChangeAt Go.RowKit

def tVerd (b : Bool) (den c : Int) (n1 : Bool) (w : List Int) (u : Int) (n2 : Bool) (x : List Int) : List T := [.v (.bool b), .v (.int .i64 den), .v (.int .i64 c), .sl n1 1 (w.map tI), .v (.int .i64 u), .sl n2 1 (x.map tI)]
section
variable {H : Type} {enc : TypeId × Value → H} {w : World} {spare : Nat → Bool} {held : Bool}
theorem rd_verd {fuel : Nat} {cs : List Value} {y} (h : DataW.trod enc Try.prog w 0 spare held fuel 35 cs = some y) : ∃ (b : Bool) (den c : Int) (n1 : Bool) (l : List Int) (u : Int) (n2 : Bool) (x : List Int), Rd w cs (tVerd b den c n1 l u n2 x) := by
  obtain ⟨hl, hf⟩ := rd_struct cx_ok (t := 35) rfl h
  obtain ⟨n0, y0, h0⟩ := hf 0 4 _ (by decide) rfl
  obtain ⟨n1, y1, h1⟩ := hf 1 31 _ (by decide) rfl
  obtain ⟨n2, y2, h2⟩ := hf 4 33 _ (by decide) rfl
  obtain ⟨b, hb⟩ := rd_bool cx_ok (t := 4) rfl h0
  obtain ⟨den, c, m1, l, hp⟩ := rd_pot h1
  obtain ⟨u, m2, x, hx⟩ := rd_flow h2
  refine ⟨b, den, c, m1, l, u, m2, x, hl, fun i z v hz hv => ?_⟩
  match i with
  | 0 => exact hb.part 0 z v hz hv
  | 1 => exact hp.part 0 z v hz hv
  | 2 => exact hp.part 1 z v hz hv
  | 3 => exact hp.part 2 z v hz hv
  | 4 => exact hx.part 0 z v hz hv
  | 5 => exact hx.part 1 z v hz hv
  | i + 6 => simp [tVerd] at hz
theorem vl_verd {b : Bool} {den c : Int} {n1 : Bool} {l : List Int} {u : Int} {n2 : Bool} {x : List Int} {v : Value} (h : Rd w v.cells.toList (tVerd b den c n1 l u n2 x)) (hv : ∃ cs, v = .agg cs) : VL noKeys (oldB w) w (.verd b den c n1 l u n2 x) v := by
  obtain ⟨cs, rfl⟩ := hv
  have h' : Rd w cs.toList (tVerd b den c n1 l u n2 x) := h
  obtain ⟨h1, h2⟩ := h'
  rw [show cs = cs.toList.toArray by simp]
  generalize cs.toList = l at h1 h2
  match l, h1 with
  | [a0, a1, a2, a3, a4, a5], _ =>
    have g0 := h2 0 _ a0 rfl rfl
    have g1 := h2 1 _ a1 rfl rfl
    have g2 := h2 2 _ a2 rfl rfl
    have g3 := h2 3 _ a3 rfl rfl
    have g4 := h2 4 _ a4 rfl rfl
    have g5 := h2 5 _ a5 rfl rfl
    refine .agg _ _ rfl (fun i x v hx hv => ?_) fun v hv => ?_
    · match i with
      | 0 => simp at hx hv; subst hx; subst hv; exact .t _ _ g0
      | 1 => simp at hx hv; subst hx; subst hv; exact .t _ _ g1
      | 2 => simp at hx hv; subst hx; subst hv; exact .t _ _ g2
      | 3 => simp at hx hv; subst hx; subst hv; exact .t _ _ g3
      | 4 => simp at hx hv; subst hx; subst hv; exact .t _ _ g4
      | 5 => simp at hx hv; subst hx; subst hv; exact .t _ _ g5
      | i + 6 => simp at hx
    · simp at hv
      rcases hv with rfl | rfl | rfl | rfl | rfl | rfl
      · exact g0.one
      · exact g1.one
      · exact g2.one
      · exact g3.one
      · exact g4.one
      · exact g5.one
end
theorem und35 : ∃ fs, Try.prog.underlying 35 = some (.struct fs) := by
  obtain ⟨d, h1, h2⟩ := und_ty cx_ok (t := 35) rfl
  cases d <;> simp [descOf] at h2
  exact ⟨_, h1⟩

end Go.Fw

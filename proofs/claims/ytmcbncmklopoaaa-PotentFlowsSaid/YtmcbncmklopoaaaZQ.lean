/- Texts that lead to the law, part 17. -/
import Derived.Test.YtmcbncmklopoaaaZP
import Derived.Test.YtmcbncmklopoaaaZO

/- The law: flows. -/
namespace Go.Fw
open Go Go.Proofs
set_option maxRecDepth 10000

def od5 : Od := [(14, [(0, .pure), (1, .pure), (2, .pure), (3, .pure), (4, .pure), (5, .pure), (6, .pure), (7, .pure), (8, .pure), (9, .pure), (10, .pure), (11, .pure), (12, .eff), (13, .eff), (14, .pure), (15, .pure), (16, .pure)]), (16, [(0, .pure), (1, .pure), (2, .pure), (3, .eff), (4, .eff), (5, .pure)])]
set_option maxHeartbeats 4000000 in
theorem f5_spec (t : Task) (n1 : Bool) (s : List Int) (n2 : Bool) (p : List Int) (den : Int) (n3 : Bool) (w : List Int) (out : List Fr) : SpecP Try.prog 5 [.task t, .ints n1 s, .ints n2 p, .flow den n3 w] out fun r ro => r = .bool true ∧ ro = [] := by
  refine spec_body cx_ok [] od5 (fn := Try.f5) (by kernel_rfl) rfl (by kernel_rfl) rfl (by unfold FnOK; kernel_rfl) fun hok => ?_
  refine SpecP.mono (f8_spec t 300 _) ?_
  rintro _ _ ⟨b, rfl, rfl⟩
  refine And.intro (fun h1 => ?_) fun h1 => ?_
  rotate_left
  · refine SpecP.mono (f9_spec _) ?_
    rintro _ _ ⟨rfl, rfl⟩
    refine And.intro (fun _ => ?_) fun h => absurd h (by decide)
    exact Exists.intro [] (And.intro rfl rfl)
  refine And.intro (fun h2 => ?_) fun h2 => ?_
  · refine SpecP.mono (f9_spec _) ?_
    rintro _ _ ⟨rfl, rfl⟩
    refine And.intro (fun _ => ?_) fun h => absurd h (by decide)
    exact Exists.intro [] (And.intro rfl rfl)
  refine And.intro (fun h3 => ?_) fun h3 => ?_
  · refine SpecP.mono (f9_spec _) ?_
    rintro _ _ ⟨rfl, rfl⟩
    refine And.intro (fun _ => ?_) fun h => absurd h (by decide)
    exact Exists.intro [] (And.intro rfl rfl)
  refine And.intro (fun h4 => ?_) fun h4 => ?_
  · refine SpecP.mono (f9_spec _) ?_
    rintro _ _ ⟨rfl, rfl⟩
    refine And.intro (fun _ => ?_) fun h => absurd h (by decide)
    exact Exists.intro [] (And.intro rfl rfl)
  have hlp := len300 h3
  clear h1 h2 h3 h4
  cases hB : isB t with
  | false =>
    have hfine : fineI t s = 10 := by rw [fineI, hB]; rfl
    have hchk : checkI t s = 10 := by rw [checkI, hB]
    refine SpecP.mono (f16_spec t n2 p _) ?_
    rintro _ _ ⟨hr, rfl⟩
    rw [hB] at hr
    subst hr
    refine SpecP.mono (f17_spec t n1 s den n3 w _) ?_
    rintro _ _ ⟨hr, rfl⟩
    rw [hfine, if_neg (by decide)] at hr
    subst hr
    repeat' (first | refine And.intro (fun h => absurd h (by decide)) (fun _ => ?_) | refine And.intro (fun _ => ?_) (fun h => absurd h (by decide)) | fail)
    refine SpecP.mono (f18_spec t _) ?_
    rintro _ _ ⟨hr, rfl⟩
    rw [hB] at hr
    subst hr
    repeat' (first | refine And.intro (fun h => absurd h (by decide)) (fun _ => ?_) | refine And.intro (fun _ => ?_) (fun h => absurd h (by decide)) | fail)
    refine SpecP.mono (f11_spec t 10 _) ?_
    rintro _ _ ⟨hr, rfl⟩
    rw [if_neg (fun h => absurd h.1 (by decide))] at hr
    subst hr
    repeat' (first | refine And.intro (fun h => absurd h (by decide)) (fun _ => ?_) | refine And.intro (fun _ => ?_) (fun h => absurd h (by decide)) | fail)
    refine SpecP.mono (f12_spec t n1 s _) ?_
    rintro _ _ ⟨hr, rfl⟩
    rw [hchk] at hr
    subst hr
    refine And.intro ⟨rfl, rfl, rfl⟩ ?_
    refine SpecP.mono (f11_spec t 10 _) ?_
    rintro _ _ ⟨hr, rfl⟩
    rw [if_neg (fun h => absurd h.1 (by decide))] at hr
    subst hr
    refine And.intro ⟨rfl, rfl, rfl⟩ ?_
    repeat' (first | refine And.intro (fun h => absurd h (by decide)) (fun _ => ?_) | refine And.intro (fun _ => ?_) (fun h => absurd h (by decide)) | fail)
    refine SpecP.mono (f9_spec _) ?_
    rintro _ _ ⟨rfl, rfl⟩
    refine And.intro (fun _ => ?_) fun h => absurd h (by decide)
    exact Exists.intro [] (And.intro rfl rfl)
  | true =>
    have TK := task_ok hB
    have hfine : fineI t s = (if risingB s t.facts.length then 0 else 20) := by rw [fineI, hB]; rfl
    have hchk : checkI t s = (if risingB s t.facts.length then 0 else 20) := by rw [checkI, hB]; cases risingB s t.facts.length <;> rfl
    cases hP : plainB t with
    | false =>
      cases hR : risingB s t.facts.length with
      | false =>
        rw [hR] at hfine hchk
        rw [if_neg (by decide)] at hfine hchk
        refine SpecP.mono (f16_spec t n2 p _) ?_
        rintro _ _ ⟨hr, rfl⟩
        rw [hB, hP] at hr
        subst hr
        refine SpecP.mono (f17_spec t n1 s den n3 w _) ?_
        rintro _ _ ⟨hr, rfl⟩
        rw [hfine, if_neg (by decide)] at hr
        subst hr
        repeat' (first | refine And.intro (fun h => absurd h (by decide)) (fun _ => ?_) | refine And.intro (fun _ => ?_) (fun h => absurd h (by decide)) | fail)
        refine SpecP.mono (f18_spec t _) ?_
        rintro _ _ ⟨hr, rfl⟩
        rw [hB] at hr
        subst hr
        repeat' (first | refine And.intro (fun h => absurd h (by decide)) (fun _ => ?_) | refine And.intro (fun _ => ?_) (fun h => absurd h (by decide)) | fail)
        refine SpecP.mono (f11_spec t 0 _) ?_
        rintro _ _ ⟨hr, rfl⟩
        rw [if_pos ⟨rfl, hP⟩] at hr
        subst hr
        repeat' (first | refine And.intro (fun h => absurd h (by decide)) (fun _ => ?_) | refine And.intro (fun _ => ?_) (fun h => absurd h (by decide)) | fail)
        refine SpecP.mono (f12_spec t n1 s _) ?_
        rintro _ _ ⟨hr, rfl⟩
        rw [hchk] at hr
        subst hr
        refine And.intro ⟨rfl, rfl, rfl⟩ ?_
        refine SpecP.mono (f11_spec t 20 _) ?_
        rintro _ _ ⟨hr, rfl⟩
        rw [if_neg (fun h => absurd h.1 (by decide))] at hr
        subst hr
        refine And.intro ⟨rfl, rfl, rfl⟩ ?_
        repeat' (first | refine And.intro (fun h => absurd h (by decide)) (fun _ => ?_) | refine And.intro (fun _ => ?_) (fun h => absurd h (by decide)) | fail)
        refine SpecP.mono (f9_spec _) ?_
        rintro _ _ ⟨rfl, rfl⟩
        refine And.intro (fun _ => ?_) fun h => absurd h (by decide)
        exact Exists.intro [] (And.intro rfl rfl)
      | true =>
        rw [hR] at hfine hchk
        rw [if_pos rfl] at hfine hchk
        refine SpecP.mono (f16_spec t n2 p _) ?_
        rintro _ _ ⟨hr, rfl⟩
        rw [hB, hP] at hr
        subst hr
        refine SpecP.mono (f17_spec t n1 s den n3 w _) ?_
        rintro _ _ ⟨hr, rfl⟩
        rw [hfine, if_pos rfl, hP] at hr
        subst hr
        repeat' (first | refine And.intro (fun h => absurd h (by decide)) (fun _ => ?_) | refine And.intro (fun _ => ?_) (fun h => absurd h (by decide)) | fail)
        refine SpecP.mono (f18_spec t _) ?_
        rintro _ _ ⟨hr, rfl⟩
        rw [hB] at hr
        subst hr
        repeat' (first | refine And.intro (fun h => absurd h (by decide)) (fun _ => ?_) | refine And.intro (fun _ => ?_) (fun h => absurd h (by decide)) | fail)
        refine SpecP.mono (f11_spec t 0 _) ?_
        rintro _ _ ⟨hr, rfl⟩
        rw [if_pos ⟨rfl, hP⟩] at hr
        subst hr
        repeat' (first | refine And.intro (fun h => absurd h (by decide)) (fun _ => ?_) | refine And.intro (fun _ => ?_) (fun h => absurd h (by decide)) | fail)
        refine SpecP.mono (f12_spec t n1 s _) ?_
        rintro _ _ ⟨hr, rfl⟩
        rw [hchk] at hr
        subst hr
        refine And.intro ⟨rfl, rfl, rfl⟩ ?_
        refine SpecP.mono (f11_spec t 0 _) ?_
        rintro _ _ ⟨hr, rfl⟩
        rw [if_pos ⟨rfl, hP⟩] at hr
        subst hr
        refine And.intro ⟨rfl, rfl, rfl⟩ ?_
        repeat' (first | refine And.intro (fun h => absurd h (by decide)) (fun _ => ?_) | refine And.intro (fun _ => ?_) (fun h => absurd h (by decide)) | fail)
        refine SpecP.mono (f9_spec _) ?_
        rintro _ _ ⟨rfl, rfl⟩
        refine And.intro (fun _ => ?_) fun h => absurd h (by decide)
        exact Exists.intro [] (And.intro rfl rfl)
    | true =>
      cases hQ : planB t p with
      | false =>
        cases hR : risingB s t.facts.length with
        | false =>
          rw [hR] at hfine hchk
          rw [if_neg (by decide)] at hfine hchk
          refine SpecP.mono (f16_spec t n2 p _) ?_
          rintro _ _ ⟨hr, rfl⟩
          rw [hB, hP, hQ] at hr
          subst hr
          refine SpecP.mono (f17_spec t n1 s den n3 w _) ?_
          rintro _ _ ⟨hr, rfl⟩
          rw [hfine, if_neg (by decide)] at hr
          subst hr
          repeat' (first | refine And.intro (fun h => absurd h (by decide)) (fun _ => ?_) | refine And.intro (fun _ => ?_) (fun h => absurd h (by decide)) | fail)
          refine SpecP.mono (f18_spec t _) ?_
          rintro _ _ ⟨hr, rfl⟩
          rw [hB] at hr
          subst hr
          repeat' (first | refine And.intro (fun h => absurd h (by decide)) (fun _ => ?_) | refine And.intro (fun _ => ?_) (fun h => absurd h (by decide)) | fail)
          refine SpecP.mono (f11_spec t 0 _) ?_
          rintro _ _ ⟨hr, rfl⟩
          rw [if_neg (fun h => by rw [hP] at h; exact absurd h.2 (by decide))] at hr
          subst hr
          repeat' (first | refine And.intro (fun h => absurd h (by decide)) (fun _ => ?_) | refine And.intro (fun _ => ?_) (fun h => absurd h (by decide)) | fail)
          refine SpecP.mono (f19_spec t n2 p _) ?_
          rintro _ _ ⟨hr, rfl⟩
          rw [hQ] at hr
          subst hr
          repeat' (first | refine And.intro (fun h => absurd h (by decide)) (fun _ => ?_) | refine And.intro (fun _ => ?_) (fun h => absurd h (by decide)) | fail)
          refine SpecP.mono (f12_spec t n1 s _) ?_
          rintro _ _ ⟨hr, rfl⟩
          rw [hchk] at hr
          subst hr
          refine And.intro ⟨rfl, rfl, rfl⟩ ?_
          refine SpecP.mono (f11_spec t 20 _) ?_
          rintro _ _ ⟨hr, rfl⟩
          rw [if_neg (fun h => absurd h.1 (by decide))] at hr
          subst hr
          refine And.intro ⟨rfl, rfl, rfl⟩ ?_
          repeat' (first | refine And.intro (fun h => absurd h (by decide)) (fun _ => ?_) | refine And.intro (fun _ => ?_) (fun h => absurd h (by decide)) | fail)
          refine SpecP.mono (f9_spec _) ?_
          rintro _ _ ⟨rfl, rfl⟩
          refine And.intro (fun _ => ?_) fun h => absurd h (by decide)
          exact Exists.intro [] (And.intro rfl rfl)
        | true =>
          rw [hR] at hfine hchk
          rw [if_pos rfl] at hfine hchk
          cases hF : flowRB t s den w with
          | false =>
            refine SpecP.mono (f16_spec t n2 p _) ?_
            rintro _ _ ⟨hr, rfl⟩
            rw [hB, hP, hQ] at hr
            subst hr
            refine SpecP.mono (f17_spec t n1 s den n3 w _) ?_
            rintro _ _ ⟨hr, rfl⟩
            rw [hfine, if_pos rfl, hP, hF] at hr
            subst hr
            repeat' (first | refine And.intro (fun h => absurd h (by decide)) (fun _ => ?_) | refine And.intro (fun _ => ?_) (fun h => absurd h (by decide)) | fail)
            refine SpecP.mono (f18_spec t _) ?_
            rintro _ _ ⟨hr, rfl⟩
            rw [hB] at hr
            subst hr
            repeat' (first | refine And.intro (fun h => absurd h (by decide)) (fun _ => ?_) | refine And.intro (fun _ => ?_) (fun h => absurd h (by decide)) | fail)
            refine SpecP.mono (f11_spec t 0 _) ?_
            rintro _ _ ⟨hr, rfl⟩
            rw [if_neg (fun h => by rw [hP] at h; exact absurd h.2 (by decide))] at hr
            subst hr
            repeat' (first | refine And.intro (fun h => absurd h (by decide)) (fun _ => ?_) | refine And.intro (fun _ => ?_) (fun h => absurd h (by decide)) | fail)
            refine SpecP.mono (f19_spec t n2 p _) ?_
            rintro _ _ ⟨hr, rfl⟩
            rw [hQ] at hr
            subst hr
            repeat' (first | refine And.intro (fun h => absurd h (by decide)) (fun _ => ?_) | refine And.intro (fun _ => ?_) (fun h => absurd h (by decide)) | fail)
            refine SpecP.mono (f12_spec t n1 s _) ?_
            rintro _ _ ⟨hr, rfl⟩
            rw [hchk] at hr
            subst hr
            refine And.intro ⟨rfl, rfl, rfl⟩ ?_
            refine SpecP.mono (f11_spec t 0 _) ?_
            rintro _ _ ⟨hr, rfl⟩
            rw [if_neg (fun h => by rw [hP] at h; exact absurd h.2 (by decide))] at hr
            subst hr
            refine And.intro ⟨rfl, rfl, rfl⟩ ?_
            repeat' (first | refine And.intro (fun h => absurd h (by decide)) (fun _ => ?_) | refine And.intro (fun _ => ?_) (fun h => absurd h (by decide)) | fail)
            refine SpecP.mono (f22_spec t n1 s den n3 w TK.facts TK.acts _) ?_
            rintro _ _ ⟨hr, rfl⟩
            rw [hF] at hr
            subst hr
            repeat' (first | refine And.intro (fun h => absurd h (by decide)) (fun _ => ?_) | refine And.intro (fun _ => ?_) (fun h => absurd h (by decide)) | fail)
            refine SpecP.mono (f9_spec _) ?_
            rintro _ _ ⟨rfl, rfl⟩
            refine And.intro (fun _ => ?_) fun h => absurd h (by decide)
            exact Exists.intro [] (And.intro rfl rfl)
          | true =>
            refine SpecP.mono (f16_spec t n2 p _) ?_
            rintro _ _ ⟨hr, rfl⟩
            rw [hB, hP, hQ] at hr
            subst hr
            refine SpecP.mono (f17_spec t n1 s den n3 w _) ?_
            rintro _ _ ⟨hr, rfl⟩
            rw [hfine, if_pos rfl, hP, hF] at hr
            subst hr
            repeat' (first | refine And.intro (fun h => absurd h (by decide)) (fun _ => ?_) | refine And.intro (fun _ => ?_) (fun h => absurd h (by decide)) | fail)
            refine SpecP.mono (f18_spec t _) ?_
            rintro _ _ ⟨hr, rfl⟩
            rw [hB] at hr
            subst hr
            repeat' (first | refine And.intro (fun h => absurd h (by decide)) (fun _ => ?_) | refine And.intro (fun _ => ?_) (fun h => absurd h (by decide)) | fail)
            refine SpecP.mono (f11_spec t 0 _) ?_
            rintro _ _ ⟨hr, rfl⟩
            rw [if_neg (fun h => by rw [hP] at h; exact absurd h.2 (by decide))] at hr
            subst hr
            repeat' (first | refine And.intro (fun h => absurd h (by decide)) (fun _ => ?_) | refine And.intro (fun _ => ?_) (fun h => absurd h (by decide)) | fail)
            refine SpecP.mono (f19_spec t n2 p _) ?_
            rintro _ _ ⟨hr, rfl⟩
            rw [hQ] at hr
            subst hr
            repeat' (first | refine And.intro (fun h => absurd h (by decide)) (fun _ => ?_) | refine And.intro (fun _ => ?_) (fun h => absurd h (by decide)) | fail)
            refine SpecP.mono (f12_spec t n1 s _) ?_
            rintro _ _ ⟨hr, rfl⟩
            rw [hchk] at hr
            subst hr
            refine And.intro ⟨rfl, rfl, rfl⟩ ?_
            refine SpecP.mono (f11_spec t 0 _) ?_
            rintro _ _ ⟨hr, rfl⟩
            rw [if_neg (fun h => by rw [hP] at h; exact absurd h.2 (by decide))] at hr
            subst hr
            refine And.intro ⟨rfl, rfl, rfl⟩ ?_
            repeat' (first | refine And.intro (fun h => absurd h (by decide)) (fun _ => ?_) | refine And.intro (fun _ => ?_) (fun h => absurd h (by decide)) | fail)
            refine SpecP.mono (f22_spec t n1 s den n3 w TK.facts TK.acts _) ?_
            rintro _ _ ⟨hr, rfl⟩
            rw [hF] at hr
            subst hr
            repeat' (first | refine And.intro (fun h => absurd h (by decide)) (fun _ => ?_) | refine And.intro (fun _ => ?_) (fun h => absurd h (by decide)) | fail)
            refine SpecP.mono (f9_spec _) ?_
            rintro _ _ ⟨rfl, rfl⟩
            refine And.intro (fun _ => ?_) fun h => absurd h (by decide)
            exact Exists.intro [] (And.intro rfl rfl)
      | true =>
        cases hR : risingB s t.facts.length with
        | false =>
          rw [hR] at hfine hchk
          rw [if_neg (by decide)] at hfine hchk
          refine SpecP.mono (f16_spec t n2 p _) ?_
          rintro _ _ ⟨hr, rfl⟩
          rw [hB, hP, hQ] at hr
          subst hr
          refine SpecP.mono (f17_spec t n1 s den n3 w _) ?_
          rintro _ _ ⟨hr, rfl⟩
          rw [hfine, if_neg (by decide)] at hr
          subst hr
          repeat' (first | refine And.intro (fun h => absurd h (by decide)) (fun _ => ?_) | refine And.intro (fun _ => ?_) (fun h => absurd h (by decide)) | fail)
          refine SpecP.mono (f18_spec t _) ?_
          rintro _ _ ⟨hr, rfl⟩
          rw [hB] at hr
          subst hr
          repeat' (first | refine And.intro (fun h => absurd h (by decide)) (fun _ => ?_) | refine And.intro (fun _ => ?_) (fun h => absurd h (by decide)) | fail)
          refine SpecP.mono (f11_spec t 0 _) ?_
          rintro _ _ ⟨hr, rfl⟩
          rw [if_neg (fun h => by rw [hP] at h; exact absurd h.2 (by decide))] at hr
          subst hr
          repeat' (first | refine And.intro (fun h => absurd h (by decide)) (fun _ => ?_) | refine And.intro (fun _ => ?_) (fun h => absurd h (by decide)) | fail)
          refine SpecP.mono (f19_spec t n2 p _) ?_
          rintro _ _ ⟨hr, rfl⟩
          rw [hQ] at hr
          subst hr
          repeat' (first | refine And.intro (fun h => absurd h (by decide)) (fun _ => ?_) | refine And.intro (fun _ => ?_) (fun h => absurd h (by decide)) | fail)
          refine SpecP.mono (f21_spec t n2 p (planB_in hQ) TK.acts (planB_len hQ) _) ?_
          rintro _ _ ⟨rfl, rfl⟩
          refine And.intro ⟨rfl, rfl, rfl⟩ ?_
          refine SpecP.mono (f20_spec false false (cntL t.acts.length p) (cntL t.acts.length p) _) ?_
          rintro _ _ ⟨hr, rfl⟩
          rw [beq_self_eq_true] at hr
          subst hr
          refine And.intro ⟨rfl, rfl, rfl⟩ ?_
          repeat' (first | refine And.intro (fun h => absurd h (by decide)) (fun _ => ?_) | refine And.intro (fun _ => ?_) (fun h => absurd h (by decide)) | fail)
          refine SpecP.mono (f12_spec t n1 s _) ?_
          rintro _ _ ⟨hr, rfl⟩
          rw [hchk] at hr
          subst hr
          refine And.intro ⟨rfl, rfl, rfl⟩ ?_
          refine SpecP.mono (f11_spec t 20 _) ?_
          rintro _ _ ⟨hr, rfl⟩
          rw [if_neg (fun h => absurd h.1 (by decide))] at hr
          subst hr
          refine And.intro ⟨rfl, rfl, rfl⟩ ?_
          repeat' (first | refine And.intro (fun h => absurd h (by decide)) (fun _ => ?_) | refine And.intro (fun _ => ?_) (fun h => absurd h (by decide)) | fail)
          refine SpecP.mono (f9_spec _) ?_
          rintro _ _ ⟨rfl, rfl⟩
          refine And.intro (fun _ => ?_) fun h => absurd h (by decide)
          exact Exists.intro [] (And.intro rfl rfl)
        | true =>
          rw [hR] at hfine hchk
          rw [if_pos rfl] at hfine hchk
          cases hF : flowRB t s den w with
          | false =>
            refine SpecP.mono (f16_spec t n2 p _) ?_
            rintro _ _ ⟨hr, rfl⟩
            rw [hB, hP, hQ] at hr
            subst hr
            refine SpecP.mono (f17_spec t n1 s den n3 w _) ?_
            rintro _ _ ⟨hr, rfl⟩
            rw [hfine, if_pos rfl, hP, hF] at hr
            subst hr
            repeat' (first | refine And.intro (fun h => absurd h (by decide)) (fun _ => ?_) | refine And.intro (fun _ => ?_) (fun h => absurd h (by decide)) | fail)
            refine SpecP.mono (f18_spec t _) ?_
            rintro _ _ ⟨hr, rfl⟩
            rw [hB] at hr
            subst hr
            repeat' (first | refine And.intro (fun h => absurd h (by decide)) (fun _ => ?_) | refine And.intro (fun _ => ?_) (fun h => absurd h (by decide)) | fail)
            refine SpecP.mono (f11_spec t 0 _) ?_
            rintro _ _ ⟨hr, rfl⟩
            rw [if_neg (fun h => by rw [hP] at h; exact absurd h.2 (by decide))] at hr
            subst hr
            repeat' (first | refine And.intro (fun h => absurd h (by decide)) (fun _ => ?_) | refine And.intro (fun _ => ?_) (fun h => absurd h (by decide)) | fail)
            refine SpecP.mono (f19_spec t n2 p _) ?_
            rintro _ _ ⟨hr, rfl⟩
            rw [hQ] at hr
            subst hr
            repeat' (first | refine And.intro (fun h => absurd h (by decide)) (fun _ => ?_) | refine And.intro (fun _ => ?_) (fun h => absurd h (by decide)) | fail)
            refine SpecP.mono (f21_spec t n2 p (planB_in hQ) TK.acts (planB_len hQ) _) ?_
            rintro _ _ ⟨rfl, rfl⟩
            refine And.intro ⟨rfl, rfl, rfl⟩ ?_
            refine SpecP.mono (f20_spec false false (cntL t.acts.length p) (cntL t.acts.length p) _) ?_
            rintro _ _ ⟨hr, rfl⟩
            rw [beq_self_eq_true] at hr
            subst hr
            refine And.intro ⟨rfl, rfl, rfl⟩ ?_
            repeat' (first | refine And.intro (fun h => absurd h (by decide)) (fun _ => ?_) | refine And.intro (fun _ => ?_) (fun h => absurd h (by decide)) | fail)
            refine SpecP.mono (f12_spec t n1 s _) ?_
            rintro _ _ ⟨hr, rfl⟩
            rw [hchk] at hr
            subst hr
            refine And.intro ⟨rfl, rfl, rfl⟩ ?_
            refine SpecP.mono (f11_spec t 0 _) ?_
            rintro _ _ ⟨hr, rfl⟩
            rw [if_neg (fun h => by rw [hP] at h; exact absurd h.2 (by decide))] at hr
            subst hr
            refine And.intro ⟨rfl, rfl, rfl⟩ ?_
            repeat' (first | refine And.intro (fun h => absurd h (by decide)) (fun _ => ?_) | refine And.intro (fun _ => ?_) (fun h => absurd h (by decide)) | fail)
            refine SpecP.mono (f22_spec t n1 s den n3 w TK.facts TK.acts _) ?_
            rintro _ _ ⟨hr, rfl⟩
            rw [hF] at hr
            subst hr
            repeat' (first | refine And.intro (fun h => absurd h (by decide)) (fun _ => ?_) | refine And.intro (fun _ => ?_) (fun h => absurd h (by decide)) | fail)
            refine SpecP.mono (f9_spec _) ?_
            rintro _ _ ⟨rfl, rfl⟩
            refine And.intro (fun _ => ?_) fun h => absurd h (by decide)
            exact Exists.intro [] (And.intro rfl rfl)
          | true =>
            refine SpecP.mono (f16_spec t n2 p _) ?_
            rintro _ _ ⟨hr, rfl⟩
            rw [hB, hP, hQ] at hr
            subst hr
            refine SpecP.mono (f17_spec t n1 s den n3 w _) ?_
            rintro _ _ ⟨hr, rfl⟩
            rw [hfine, if_pos rfl, hP, hF] at hr
            subst hr
            repeat' (first | refine And.intro (fun h => absurd h (by decide)) (fun _ => ?_) | refine And.intro (fun _ => ?_) (fun h => absurd h (by decide)) | fail)
            refine SpecP.mono (f18_spec t _) ?_
            rintro _ _ ⟨hr, rfl⟩
            rw [hB] at hr
            subst hr
            repeat' (first | refine And.intro (fun h => absurd h (by decide)) (fun _ => ?_) | refine And.intro (fun _ => ?_) (fun h => absurd h (by decide)) | fail)
            refine SpecP.mono (f11_spec t 0 _) ?_
            rintro _ _ ⟨hr, rfl⟩
            rw [if_neg (fun h => by rw [hP] at h; exact absurd h.2 (by decide))] at hr
            subst hr
            repeat' (first | refine And.intro (fun h => absurd h (by decide)) (fun _ => ?_) | refine And.intro (fun _ => ?_) (fun h => absurd h (by decide)) | fail)
            refine SpecP.mono (f19_spec t n2 p _) ?_
            rintro _ _ ⟨hr, rfl⟩
            rw [hQ] at hr
            subst hr
            repeat' (first | refine And.intro (fun h => absurd h (by decide)) (fun _ => ?_) | refine And.intro (fun _ => ?_) (fun h => absurd h (by decide)) | fail)
            refine SpecP.mono (f21_spec t n2 p (planB_in hQ) TK.acts (planB_len hQ) _) ?_
            rintro _ _ ⟨rfl, rfl⟩
            refine And.intro ⟨rfl, rfl, rfl⟩ ?_
            refine SpecP.mono (f20_spec false false (cntL t.acts.length p) (cntL t.acts.length p) _) ?_
            rintro _ _ ⟨hr, rfl⟩
            rw [beq_self_eq_true] at hr
            subst hr
            refine And.intro ⟨rfl, rfl, rfl⟩ ?_
            repeat' (first | refine And.intro (fun h => absurd h (by decide)) (fun _ => ?_) | refine And.intro (fun _ => ?_) (fun h => absurd h (by decide)) | fail)
            refine SpecP.mono (f12_spec t n1 s _) ?_
            rintro _ _ ⟨hr, rfl⟩
            rw [hchk] at hr
            subst hr
            refine And.intro ⟨rfl, rfl, rfl⟩ ?_
            refine SpecP.mono (f11_spec t 0 _) ?_
            rintro _ _ ⟨hr, rfl⟩
            rw [if_neg (fun h => by rw [hP] at h; exact absurd h.2 (by decide))] at hr
            subst hr
            refine And.intro ⟨rfl, rfl, rfl⟩ ?_
            repeat' (first | refine And.intro (fun h => absurd h (by decide)) (fun _ => ?_) | refine And.intro (fun _ => ?_) (fun h => absurd h (by decide)) | fail)
            refine SpecP.mono (f22_spec t n1 s den n3 w TK.facts TK.acts _) ?_
            rintro _ _ ⟨hr, rfl⟩
            rw [hF] at hr
            subst hr
            repeat' (first | refine And.intro (fun h => absurd h (by decide)) (fun _ => ?_) | refine And.intro (fun _ => ?_) (fun h => absurd h (by decide)) | fail)
            refine SpecP.mono (f9_spec _) ?_
            rintro _ _ ⟨rfl, rfl⟩
            refine And.intro (fun _ => ?_) fun h => absurd h (by decide)
            exact Exists.intro [] (And.intro rfl rfl)
end Go.Fw

/- The row: flows that can be read are closed data. -/
namespace Go.Fw
open Go Go.Proofs Go.ChangeShapes Go.WideShapes Go.ChangeAt Go.RowKit

def tFlow (u : Int) (n1 : Bool) (w : List Int) : List T := [.v (.int .i64 u), .sl n1 1 (w.map tI)]
section
variable {H : Type} {enc : TypeId × Value → H} {w : World} {spare : Nat → Bool} {held : Bool}
theorem rd_flow {fuel : Nat} {cs : List Value} {x} (h : DataW.trod enc Try.prog w 0 spare held fuel 33 cs = some x) : ∃ (u : Int) (n1 : Bool) (l : List Int), Rd w cs (tFlow u n1 l) := by
  obtain ⟨hl, hf⟩ := rd_struct cx_ok (t := 33) rfl h
  obtain ⟨n0, y0, h0⟩ := hf 0 3 _ (by decide) rfl
  obtain ⟨n1, y1, h1⟩ := hf 1 23 _ (by decide) rfl
  obtain ⟨a, ha⟩ := rd_int cx_ok (t := 3) rfl h0
  obtain ⟨nc, c, hc⟩ := rd_ints h1
  refine ⟨a, nc, c, hl, fun i x v hx hv => ?_⟩
  match i with
  | 0 => exact ha.part 0 x v hx hv
  | 1 => exact hc.part 0 x v hx hv
  | i + 2 => simp [tFlow] at hx
theorem vl_flow {u : Int} {n1 : Bool} {l : List Int} {v : Value} (h : Rd w v.cells.toList (tFlow u n1 l)) (hv : ∃ cs, v = .agg cs) : VL noKeys (oldB w) w (.flow u n1 l) v := by
  obtain ⟨cs, rfl⟩ := hv
  have h' : Rd w cs.toList (tFlow u n1 l) := h
  obtain ⟨h1, h2⟩ := h'
  rw [show cs = cs.toList.toArray by simp]
  generalize cs.toList = l at h1 h2
  match l, h1 with
  | [a, b], _ =>
    have g0 := h2 0 _ a rfl rfl
    have g1 := h2 1 _ b rfl rfl
    refine .agg _ _ rfl (fun i x v hx hv => ?_) fun v hv => ?_
    · match i with
      | 0 => simp at hx hv; subst hx; subst hv; exact .t _ _ g0
      | 1 => simp at hx hv; subst hx; subst hv; exact .t _ _ g1
      | i + 2 => simp at hx
    · simp at hv
      rcases hv with rfl | rfl
      · exact g0.one
      · exact g1.one
end
theorem und33 : ∃ fs, Try.prog.underlying 33 = some (.struct fs) := by
  obtain ⟨d, h1, h2⟩ := und_ty cx_ok (t := 33) rfl
  cases d <;> simp [descOf] at h2
  exact ⟨_, h1⟩

end Go.Fw

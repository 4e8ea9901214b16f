/- Texts that lead to the law, part 15. -/
import Derived.Test.YtmcbncmklopoaaaZJ
import Derived.Test.YtmcbncmklopoaaaZN

/- The law: what a potential is worth. -/
namespace Go.Fw
open Go Go.Proofs
set_option maxRecDepth 10000

theorem given_bad {t : Task} {s : List Int} {den c : Int} {w : List Int} (h : isB t = false) : givenI t s den c w = 10 ∧ asksI t den c w = 10 := by
  have h2 : asksI t den c w = 10 := by rw [asksI, h]
  have h3 : fineI t s = 10 := by rw [fineI, h]; rfl
  exact ⟨by rw [givenI, h3]; rfl, h2⟩
theorem len300 {l : List Int} (h : decide (((l.map tI).length : Int) > 300) = false) : l.length ≤ 300 := by
  have h := of_decide_eq_false h
  rw [List.length_map] at h
  omega
theorem given_is {t : Task} {s : List Int} {den c : Int} {w : List Int} {p q r : Bool} (h : isB t = true) (hp : plainB t = p) (hq : isPotB t.facts.length den c w = q) (hr : risingB s t.facts.length = r) :
    givenI t s den c w = (if r then (if p && q then 0 else 1) else 20) ∧ asksI t den c w = (if p && q then 0 else 1) ∧ checkI t s = (if r then 0 else 20) := by
  have h2 : asksI t den c w = (if p && q then 0 else 1) := by
    rw [asksI, h, hp, hq]
    cases p <;> cases q <;> rfl
  have h3 : fineI t s = (if r then 0 else 20) := by rw [fineI, h, hr]; cases r <;> rfl
  refine ⟨?_, h2, ?_⟩
  · rw [givenI, h3, h2]
    cases p <;> cases q <;> cases r <;> rfl
  · rw [checkI, h, hr]
    cases r <;> rfl
theorem est_eq {v den : Int} (hv : 0 < v) (hd : 1 ≤ den) : (v - 1).tdiv den + 1 = (v + den - 1).tdiv den := by
  rw [Int.tdiv_eq_ediv_of_nonneg (by omega), Int.tdiv_eq_ediv_of_nonneg (by omega), show v + den - 1 = v - 1 + den * 1 by omega, Int.add_mul_ediv_left _ _ (by omega)]
set_option maxHeartbeats 4000000 in
theorem f6_spec (t : Task) (n2 : Bool) (s : List Int) (den c : Int) (n1 : Bool) (w : List Int) (out : List Fr) : SpecP Try.prog 6 [.task t, .ints n2 s, .pot den c n1 w] out fun r ro => r = .bool true ∧ ro = [] := by
  refine spec_body cx_ok [] [] (fn := Try.f6) (by kernel_rfl) rfl (by kernel_rfl) rfl (by unfold FnOK; kernel_rfl) fun hok => ?_
  refine SpecP.mono (f8_spec t 300 _) ?_
  rintro _ _ ⟨b, rfl, rfl⟩
  refine And.intro (fun h1 => ?_) fun h1 => ?_
  rotate_left
  · refine SpecP.mono (f9_spec _) ?_
    rintro _ _ ⟨rfl, rfl⟩
    refine And.intro (fun _ => ?_) fun h => absurd h (by decide)
    exact Exists.intro [] (And.intro rfl rfl)
  refine And.intro (fun h2 => ?_) fun h2 => ?_
  · refine SpecP.mono (f9_spec _) ?_
    rintro _ _ ⟨rfl, rfl⟩
    refine And.intro (fun _ => ?_) fun h => absurd h (by decide)
    exact Exists.intro [] (And.intro rfl rfl)
  refine And.intro (fun h3 => ?_) fun h3 => ?_
  · refine SpecP.mono (f9_spec _) ?_
    rintro _ _ ⟨rfl, rfl⟩
    refine And.intro (fun _ => ?_) fun h => absurd h (by decide)
    exact Exists.intro [] (And.intro rfl rfl)
  have hls := len300 h2
  have hlw := len300 h3
  clear h1 h2 h3
  refine SpecP.mono (f23_spec t _) ?_
  rintro _ _ ⟨hr, rfl⟩
  cases hB : isB t with
  | false =>
    rw [hB] at hr
    subst hr
    obtain ⟨hg, ha⟩ := given_bad (s := s) (den := den) (c := c) (w := w) hB
    repeat' (first | refine And.intro (fun h => absurd h (by decide)) (fun _ => ?_) | refine And.intro (fun _ => ?_) (fun h => absurd h (by decide)) | fail)
    refine SpecP.mono (f24_spec t n2 s den c n1 w (by omega) _) ?_
    rintro _ _ ⟨hr, rfl⟩
    rw [hg, if_neg (by decide)] at hr
    subst hr
    refine SpecP.mono (f25_spec t den c n1 w _) ?_
    rintro _ _ ⟨hr, rfl⟩
    rw [ha, if_neg (by decide)] at hr
    subst hr
    repeat' (first | refine And.intro (fun h => absurd h (by decide)) (fun _ => ?_) | refine And.intro (fun _ => ?_) (fun h => absurd h (by decide)) | fail)
    refine SpecP.mono (f26_spec t n2 s den c n1 w (by omega) _) ?_
    rintro _ _ ⟨hr, rfl⟩
    rw [hg, if_neg (by decide)] at hr
    subst hr
    refine SpecP.mono (f18_spec t _) ?_
    rintro _ _ ⟨rfl, rfl⟩
    refine And.intro (fun h => absurd (h.symm.trans hB) (by decide)) fun _ => ?_
    repeat' (first | refine And.intro (fun h => absurd h (by decide)) (fun _ => ?_) | refine And.intro (fun _ => ?_) (fun h => absurd h (by decide)) | fail)
    refine SpecP.mono (f9_spec _) ?_
    rintro _ _ ⟨rfl, rfl⟩
    refine And.intro (fun _ => ?_) fun h => absurd h (by decide)
    exact Exists.intro [] (And.intro rfl rfl)
  | true =>
    rw [hB] at hr
    subst hr
    refine And.intro (fun hP => ?_) fun hP => ?_
    rotate_left
    · cases hQ : isPotB t.facts.length den c w <;> cases hS : risingB s t.facts.length
      all_goals
        obtain ⟨hg, ha, hk⟩ := given_is (s := s) (den := den) (c := c) (w := w) hB hP hQ hS
        simp only [Bool.false_and, Bool.false_eq_true, if_false, if_true] at hg ha hk
        refine SpecP.mono (f24_spec t n2 s den c n1 w (by omega) _) ?_
        rintro _ _ ⟨hr, rfl⟩
        rw [hg, if_neg (by decide)] at hr
        subst hr
        refine SpecP.mono (f25_spec t den c n1 w _) ?_
        rintro _ _ ⟨hr, rfl⟩
        rw [ha, if_neg (by decide)] at hr
        subst hr
        repeat' (first | refine And.intro (fun h => absurd h (by decide)) (fun _ => ?_) | refine And.intro (fun _ => ?_) (fun h => absurd h (by decide)) | fail)
        refine SpecP.mono (f26_spec t n2 s den c n1 w (by omega) _) ?_
        rintro _ _ ⟨hr, rfl⟩
        rw [hg, if_neg (by decide)] at hr
        subst hr
        refine SpecP.mono (f18_spec t _) ?_
        rintro _ _ ⟨rfl, rfl⟩
        refine And.intro (fun _ => ?_) fun h => absurd (h.symm.trans hB) (by decide)
        repeat' (first | refine And.intro (fun h => absurd h (by decide)) (fun _ => ?_) | refine And.intro (fun _ => ?_) (fun h => absurd h (by decide)) | fail)
        refine SpecP.mono (f27_spec t _) ?_
        rintro _ _ ⟨rfl, rfl⟩
        refine And.intro (fun h => absurd (h.symm.trans hP) (by decide)) fun _ => ?_
        repeat' (first | refine And.intro (fun h => absurd h (by decide)) (fun _ => ?_) | refine And.intro (fun _ => ?_) (fun h => absurd h (by decide)) | fail)
        refine SpecP.mono (f12_spec t n2 s _) ?_
        rintro _ _ ⟨hr, rfl⟩
        rw [hk] at hr
        subst hr
        repeat' (first | refine And.intro (fun h => absurd h (by decide)) (fun _ => ?_) | refine And.intro (fun _ => ?_) (fun h => absurd h (by decide)) | fail)
        refine SpecP.mono (f9_spec _) ?_
        rintro _ _ ⟨rfl, rfl⟩
        refine And.intro (fun _ => ?_) fun h => absurd h (by decide)
        exact Exists.intro [] (And.intro rfl rfl)
    cases hQ : isPotB t.facts.length den c w with
    | false =>
      cases hS : risingB s t.facts.length
      all_goals
        obtain ⟨hg, ha, hk⟩ := given_is (s := s) (den := den) (c := c) (w := w) hB hP hQ hS
        simp only [Bool.true_and, Bool.false_eq_true, if_false, if_true] at hg ha hk
        refine SpecP.mono (f24_spec t n2 s den c n1 w (by omega) _) ?_
        rintro _ _ ⟨hr, rfl⟩
        rw [hg, if_neg (by decide)] at hr
        subst hr
        refine SpecP.mono (f25_spec t den c n1 w _) ?_
        rintro _ _ ⟨hr, rfl⟩
        rw [ha, if_neg (by decide)] at hr
        subst hr
        repeat' (first | refine And.intro (fun h => absurd h (by decide)) (fun _ => ?_) | refine And.intro (fun _ => ?_) (fun h => absurd h (by decide)) | fail)
        refine SpecP.mono (f26_spec t n2 s den c n1 w (by omega) _) ?_
        rintro _ _ ⟨hr, rfl⟩
        rw [hg, if_neg (by decide)] at hr
        subst hr
        refine SpecP.mono (f18_spec t _) ?_
        rintro _ _ ⟨rfl, rfl⟩
        refine And.intro (fun _ => ?_) fun h => absurd (h.symm.trans hB) (by decide)
        repeat' (first | refine And.intro (fun h => absurd h (by decide)) (fun _ => ?_) | refine And.intro (fun _ => ?_) (fun h => absurd h (by decide)) | fail)
        refine SpecP.mono (f27_spec t _) ?_
        rintro _ _ ⟨rfl, rfl⟩
        refine And.intro (fun _ => ?_) fun h => absurd (h.symm.trans hP) (by decide)
        repeat' (first | refine And.intro (fun h => absurd h (by decide)) (fun _ => ?_) | refine And.intro (fun _ => ?_) (fun h => absurd h (by decide)) | fail)
        refine SpecP.mono (f28_spec t den c n1 w _) ?_
        rintro _ _ ⟨rfl, rfl⟩
        refine And.intro (fun h => absurd (h.symm.trans hQ) (by decide)) fun _ => ?_
        repeat' (first | refine And.intro (fun h => absurd h (by decide)) (fun _ => ?_) | refine And.intro (fun _ => ?_) (fun h => absurd h (by decide)) | fail)
        refine SpecP.mono (f12_spec t n2 s _) ?_
        rintro _ _ ⟨hr, rfl⟩
        rw [hk] at hr
        subst hr
        repeat' (first | refine And.intro (fun h => absurd h (by decide)) (fun _ => ?_) | refine And.intro (fun _ => ?_) (fun h => absurd h (by decide)) | fail)
        refine SpecP.mono (f9_spec _) ?_
        rintro _ _ ⟨rfl, rfl⟩
        refine And.intro (fun _ => ?_) fun h => absurd h (by decide)
        exact Exists.intro [] (And.intro rfl rfl)
    | true =>
      obtain ⟨hd, hc, hwl, hw⟩ := pot_ok hQ
      obtain ⟨hRR, hFF⟩ := right_eq hB (den := den) (c := c) hwl
      have TK := task_ok hB
      cases hS : risingB s t.facts.length with
      | false =>
        obtain ⟨hg, ha, hk⟩ := given_is (s := s) (den := den) (c := c) (w := w) hB hP hQ hS
        simp only [Bool.and_self, Bool.false_eq_true, if_false, if_true] at hg ha hk
        refine SpecP.mono (f24_spec t n2 s den c n1 w (by omega) _) ?_
        rintro _ _ ⟨hr, rfl⟩
        rw [hg, if_neg (by decide)] at hr
        subst hr
        refine SpecP.mono (f25_spec t den c n1 w _) ?_
        rintro _ _ ⟨hr, rfl⟩
        rw [ha, if_pos rfl] at hr
        subst hr
        refine And.intro (fun hR => ?_) fun hR => ?_
        all_goals
          refine And.intro (fun hF => ?_) fun hF => ?_
          all_goals
            repeat' (first | refine And.intro (fun h => absurd h (by decide)) (fun _ => ?_) | refine And.intro (fun _ => ?_) (fun h => absurd h (by decide)) | fail)
            refine SpecP.mono (f26_spec t n2 s den c n1 w (by omega) _) ?_
            rintro _ _ ⟨hr, rfl⟩
            rw [hg, if_neg (by decide)] at hr
            subst hr
            refine SpecP.mono (f18_spec t _) ?_
            rintro _ _ ⟨rfl, rfl⟩
            refine And.intro (fun _ => ?_) fun h => absurd (h.symm.trans hB) (by decide)
            repeat' (first | refine And.intro (fun h => absurd h (by decide)) (fun _ => ?_) | refine And.intro (fun _ => ?_) (fun h => absurd h (by decide)) | fail)
            refine SpecP.mono (f27_spec t _) ?_
            rintro _ _ ⟨rfl, rfl⟩
            refine And.intro (fun _ => ?_) fun h => absurd (h.symm.trans hP) (by decide)
            repeat' (first | refine And.intro (fun h => absurd h (by decide)) (fun _ => ?_) | refine And.intro (fun _ => ?_) (fun h => absurd h (by decide)) | fail)
            refine SpecP.mono (f28_spec t den c n1 w _) ?_
            rintro _ _ ⟨rfl, rfl⟩
            refine And.intro (fun _ => ?_) fun h => absurd (h.symm.trans hQ) (by decide)
            repeat' (first | refine And.intro (fun h => absurd h (by decide)) (fun _ => ?_) | refine And.intro (fun _ => ?_) (fun h => absurd h (by decide)) | fail)
            refine SpecP.mono (f29_spec t den c n1 w TK.cost ⟨by omega, hd.2⟩ hc hw (by omega) _) ?_
            rintro _ _ ⟨hr, rfl⟩
            rw [← hRR, ← hFF] at hr
            subst hr
            first | refine And.intro (fun _ => ?_) (fun h => absurd (h.symm.trans hR) (by decide)) | refine And.intro (fun h => absurd (h.symm.trans hR) (by decide)) (fun _ => ?_)
            all_goals
              first | refine And.intro (fun _ => ?_) (fun h => absurd (h.symm.trans hF) (by decide)) | refine And.intro (fun h => absurd (h.symm.trans hF) (by decide)) (fun _ => ?_)
            repeat' (first | refine And.intro (fun h => absurd h (by decide)) (fun _ => ?_) | refine And.intro (fun _ => ?_) (fun h => absurd h (by decide)) | fail)
            refine SpecP.mono (f12_spec t n2 s _) ?_
            rintro _ _ ⟨hr, rfl⟩
            rw [hk] at hr
            subst hr
            repeat' (first | refine And.intro (fun h => absurd h (by decide)) (fun _ => ?_) | refine And.intro (fun _ => ?_) (fun h => absurd h (by decide)) | fail)
            refine SpecP.mono (f9_spec _) ?_
            rintro _ _ ⟨rfl, rfl⟩
            refine And.intro (fun _ => ?_) fun h => absurd h (by decide)
            exact Exists.intro [] (And.intro rfl rfl)
      | true =>
        obtain ⟨hg, ha, hk⟩ := given_is (s := s) (den := den) (c := c) (w := w) hB hP hQ hS
        simp only [Bool.and_self, if_true] at hg ha hk
        have hsr : ∀ x ∈ s, 0 ≤ x ∧ x < (w.length : Int) := by rw [hwl]; exact rising_in hS
        have hv := value_b (s := s) hw hc (by omega)
        refine SpecP.mono (f24_spec t n2 s den c n1 w (by omega) _) ?_
        rintro _ _ ⟨hr, rfl⟩
        rw [if_pos hg] at hr
        subst hr
        refine SpecP.mono (f25_spec t den c n1 w _) ?_
        rintro _ _ ⟨hr, rfl⟩
        rw [ha, if_pos rfl] at hr
        subst hr
        refine And.intro (fun hR => ?_) fun hR => ?_
        all_goals
          refine And.intro (fun hF => ?_) fun hF => ?_
          all_goals
            repeat' (first | refine And.intro (fun h => absurd h (by decide)) (fun _ => ?_) | refine And.intro (fun _ => ?_) (fun h => absurd h (by decide)) | fail)
            refine SpecP.mono (f26_spec t n2 s den c n1 w (by omega) _) ?_
            rintro _ _ ⟨hr, rfl⟩
            rw [if_pos hg] at hr
            subst hr
            refine SpecP.mono (f18_spec t _) ?_
            rintro _ _ ⟨rfl, rfl⟩
            refine And.intro (fun _ => ?_) fun h => absurd (h.symm.trans hB) (by decide)
            repeat' (first | refine And.intro (fun h => absurd h (by decide)) (fun _ => ?_) | refine And.intro (fun _ => ?_) (fun h => absurd h (by decide)) | fail)
            refine SpecP.mono (f27_spec t _) ?_
            rintro _ _ ⟨rfl, rfl⟩
            refine And.intro (fun _ => ?_) fun h => absurd (h.symm.trans hP) (by decide)
            repeat' (first | refine And.intro (fun h => absurd h (by decide)) (fun _ => ?_) | refine And.intro (fun _ => ?_) (fun h => absurd h (by decide)) | fail)
            refine SpecP.mono (f28_spec t den c n1 w _) ?_
            rintro _ _ ⟨rfl, rfl⟩
            refine And.intro (fun _ => ?_) fun h => absurd (h.symm.trans hQ) (by decide)
            repeat' (first | refine And.intro (fun h => absurd h (by decide)) (fun _ => ?_) | refine And.intro (fun _ => ?_) (fun h => absurd h (by decide)) | fail)
            refine SpecP.mono (f29_spec t den c n1 w TK.cost ⟨by omega, hd.2⟩ hc hw (by omega) _) ?_
            rintro _ _ ⟨hr, rfl⟩
            rw [← hRR, ← hFF] at hr
            subst hr
            first | refine And.intro (fun _ => ?_) (fun h => absurd (h.symm.trans hR) (by decide)) | refine And.intro (fun h => absurd (h.symm.trans hR) (by decide)) (fun _ => ?_)
            all_goals
              first | refine And.intro (fun _ => ?_) (fun h => absurd (h.symm.trans hF) (by decide)) | refine And.intro (fun h => absurd (h.symm.trans hF) (by decide)) (fun _ => ?_)
            repeat' (first | refine And.intro (fun h => absurd h (by decide)) (fun _ => ?_) | refine And.intro (fun _ => ?_) (fun h => absurd h (by decide)) | fail)
            refine SpecP.mono (f12_spec t n2 s _) ?_
            rintro _ _ ⟨hr, rfl⟩
            rw [hk] at hr
            subst hr
            repeat' (first | refine And.intro (fun h => absurd h (by decide)) (fun _ => ?_) | refine And.intro (fun _ => ?_) (fun h => absurd h (by decide)) | fail)
            refine SpecP.mono (f30_spec n2 n1 s w c hsr (by omega) hw hc _) ?_
            rintro _ _ ⟨rfl, rfl⟩
            refine SpecP.mono (f31_spec (valueF s c w) den (by omega) (by omega) _) ?_
            rintro _ _ ⟨rfl, rfl⟩
            first
              | have hR1 : rightB t den c w = true := hR
                refine And.intro (fun hv0 => ?_) fun hv0 => ?_
                · have hv1 : 0 < valueF s c w := of_decide_eq_true hv0
                  have b1 := tdiv_in (n := valueF s c w + den - 1) (g := den) (B := 1127025807823208449) ⟨by omega, by omega⟩
                  refine And.intro (by omega) (And.intro (by omega) (And.intro (by omega) (And.intro (by omega) (And.intro (by omega) (And.intro (by omega) (And.intro (by omega) ?_))))))
                  repeat' (first | refine And.intro (fun h => absurd h (by decide)) (fun _ => ?_) | refine And.intro (fun _ => ?_) (fun h => absurd h (by decide)) | fail)
                  refine And.intro (fun _ => ?_) fun h => absurd h (by simp)
                  refine And.intro (fun _ => ?_) fun h => absurd h (by simp)
                  repeat' (first | refine And.intro (fun h => absurd h (by decide)) (fun _ => ?_) | refine And.intro (fun _ => ?_) (fun h => absurd h (by decide)) | fail)
                  refine And.intro (fun _ => ?_) fun h => absurd h (by rw [estI, if_pos ⟨hR1, hv1⟩, est_eq hv1 hd.1]; simp)
                  refine SpecP.mono (f9_spec _) ?_
                  rintro _ _ ⟨rfl, rfl⟩
                  refine And.intro (fun _ => ?_) fun h => absurd h (by decide)
                  exact Exists.intro [] (And.intro rfl rfl)
                · have hv1 : ¬ 0 < valueF s c w := of_decide_eq_false hv0
                  repeat' (first | refine And.intro (fun h => absurd h (by decide)) (fun _ => ?_) | refine And.intro (fun _ => ?_) (fun h => absurd h (by decide)) | fail)
                  refine And.intro (fun _ => ?_) fun h => absurd h (by simp)
                  refine And.intro (fun _ => ?_) fun h => absurd h (by simp)
                  repeat' (first | refine And.intro (fun h => absurd h (by decide)) (fun _ => ?_) | refine And.intro (fun _ => ?_) (fun h => absurd h (by decide)) | fail)
                  refine And.intro (fun _ => ?_) fun h => absurd h (by rw [estI, if_neg (fun h => hv1 h.2)]; simp)
                  refine SpecP.mono (f9_spec _) ?_
                  rintro _ _ ⟨rfl, rfl⟩
                  refine And.intro (fun _ => ?_) fun h => absurd h (by decide)
                  exact Exists.intro [] (And.intro rfl rfl)
              | have hR1 : rightB t den c w = false := hR
                repeat' (first | refine And.intro (fun h => absurd h (by decide)) (fun _ => ?_) | refine And.intro (fun _ => ?_) (fun h => absurd h (by decide)) | fail)
                refine And.intro (fun _ => ?_) fun h => absurd h (by simp)
                refine And.intro (fun _ => ?_) fun h => absurd h (by simp)
                repeat' (first | refine And.intro (fun h => absurd h (by decide)) (fun _ => ?_) | refine And.intro (fun _ => ?_) (fun h => absurd h (by decide)) | fail)
                refine And.intro (fun _ => ?_) fun h => absurd h (by rw [estI, if_neg (fun h => by rw [hR1] at h; cases h.1)]; simp)
                refine SpecP.mono (f9_spec _) ?_
                rintro _ _ ⟨rfl, rfl⟩
                refine And.intro (fun _ => ?_) fun h => absurd h (by decide)
                exact Exists.intro [] (And.intro rfl rfl)
end Go.Fw

/- Patterns, compared. -/
import Derived.Test.YtkelfldopopgcaaZS

/- The law of patterns. -/
namespace Go.Fw
open Go Go.Proofs
set_option maxRecDepth 10000

/-- The error of the first patterns. -/
def oth (t : Task) (l : List (Bool × List Int)) (i : Nat) : Int := if (l.take i).any (fun p => !fineB t true p.2) = true then 1 else 0
theorem oth_keep {t : Task} {l : List (Bool × List Int)} {i : Nat} (hi : i < l.length) (h : fineB t true l[i].2 = true) : oth t l (i + 1) = oth t l i := by
  rw [oth, oth, List.take_add_one, List.getElem?_eq_getElem hi, Option.toList_some, List.any_append, List.any_cons, h]; simp only [Bool.not_true, List.any_nil, Bool.or_false]
theorem oth_one {t : Task} {l : List (Bool × List Int)} {i : Nat} (hi : i < l.length) (h : fineB t true l[i].2 = false) : oth t l (i + 1) = 1 := by
  rw [oth, List.take_add_one, List.getElem?_eq_getElem hi, Option.toList_some, List.any_append, List.any_cons, h]; simp
theorem oth_all {t : Task} {l : List (Bool × List Int)} (hi : isB t = true) : oth t l l.length = asksI t true l := by
  rw [oth, List.take_length, asksI, if_pos hi]

def kq6 : Kp := [(12, ([1, 2, 3, 7, 8, 9, 10, 11, 12, 13, 14, 57, 58, 59], [24]))]
set_option maxHeartbeats 2000000 in
theorem f6_spec (t : Task) (n1 n2 : Bool) (p : List Int) (l : List (Bool × List Int)) (hl : l.length ≤ 10000000000000) (out : List Fr) : SpecP Try.prog 6 [.task t, .ints n1 p, .t (.sl n2 1 (tLs l))] out fun r ro => r = .bool true ∧ ro = [] := by
  refine spec_body cx_ok kq6 [] (fn := Try.f6) (by kernel_rfl) rfl (by kernel_rfl) rfl (by unfold FnOK; kernel_rfl) fun hok => ?_
  refine SpecP.mono (f10_spec t 300 _) ?_
  rintro _ _ ⟨b0, rfl, rfl⟩
  refine And.intro (fun _ => ?_) fun _ => ?_
  rotate_left
  · refine SpecP.mono (f7_spec _) ?_
    rintro _ _ ⟨rfl, rfl⟩
    exact And.intro (fun _ => Exists.intro [] (ret_bool rfl rfl)) fun h => Bool.noConfusion h
  refine Exists.intro (tLs [(n1, p)]) (And.intro rfl (And.intro (Nat.le_of_ble_eq_true rfl) ?_))
  refine SpecP.mono (f11_spec false [(n1, p)] _) ?_
  rintro _ _ ⟨b1, rfl, rfl⟩
  refine And.intro trivial (And.intro trivial ?_)
  refine And.intro (fun _ => ?_) fun _ => ?_
  rotate_left
  · refine SpecP.mono (f7_spec _) ?_
    rintro _ _ ⟨rfl, rfl⟩
    exact And.intro (fun _ => Exists.intro [] (ret_bool rfl rfl)) fun h => Bool.noConfusion h
  refine SpecP.mono (f11b_spec n2 l _) ?_
  rintro _ _ ⟨b2, few, rfl, rfl⟩
  refine And.intro (fun hb2 => ?_) fun _ => ?_
  rotate_left
  · refine SpecP.mono (f7_spec _) ?_
    rintro _ _ ⟨rfl, rfl⟩
    exact And.intro (fun _ => Exists.intro [] (ret_bool rfl rfl)) fun h => Bool.noConfusion h
  have m24 := f24_spec t n1 p
  have hl2 : asksI t true l = 0 → l.length ≤ 1000000000 := fun h0 => by
    obtain ⟨hi, hf⟩ := asks_ok h0
    have hN := (task_ok hi).facts
    have := few hb2 (fun q hq => by
      have := hf q hq
      simp [fineB] at this
      have := rising_le this.1
      omega) hl
    omega
  have m26 := f26_spec t n2 l hl2
  have m14 := f14_spec t
  cases hi1 : isB t with
  | false =>
    rw [asks_bad hi1] at m24 m26
    rw [hi1] at m14
    refine SpecP.mono (m24 _) ?_
    rintro _ _ ⟨rfl, rfl⟩
    refine And.intro (fun h => Bool.noConfusion h) fun _ => ?_
    refine SpecP.mono (f25_spec t n1 p _) ?_
    rintro _ _ ⟨⟨_, rfl⟩ | ⟨h, _⟩, rfl⟩
    rotate_left
    · rw [asks_bad hi1] at h; cases h
    rw [asks_bad hi1]
    repeat' first
      | refine And.intro (fun _ => ?_) fun h => Bool.noConfusion h
      | refine And.intro (fun h => Bool.noConfusion h) fun _ => ?_
      | (refine SpecP.mono (f7_spec _) ?_; rintro _ _ ⟨rfl, rfl⟩)
      | (refine SpecP.mono (m26 _) ?_; rintro _ _ ⟨rfl, rfl⟩)
      | (refine SpecP.mono (m14 _) ?_; rintro _ _ ⟨rfl, rfl⟩)
      | refine And.intro ⟨rfl, rfl, rfl⟩ ?_
      | refine And.intro trivial ?_
      | exact Exists.intro [] (ret_bool rfl rfl)
  | true =>
    rw [hi1] at m14
    have m28 := f28_spec t n1 p hi1
    have m29 := f29_spec t n1 p hi1
    have m30 := fun h0 => f30_spec t n2 l (task_ok hi1) (hl2 h0)
    have hor : (risingB p t.facts.length = false ∧ asksI t false [(n1, p)] = 1) ∨ (risingB p t.facts.length = true ∧ asksI t false [(n1, p)] = 0) := by
      cases hr : risingB p t.facts.length with
      | false => exact .inl ⟨rfl, by rw [asksI, if_pos hi1]; simp [fineB, hr]⟩
      | true => exact .inr ⟨rfl, by rw [asksI, if_pos hi1]; simp [fineB, hr]⟩
    have ho2 : asksI t true l = 0 ∨ asksI t true l = 1 := by
      rw [asksI, if_pos hi1]; split
      · exact .inr rfl
      · exact .inl rfl
    generalize hB : (decide (asksI t true l = 0) && addB t l) = B at *
    rcases hor with ⟨hr, ha⟩ | ⟨hr, ha⟩
    · rw [ha] at m24
      cases B
      case' false => let BB : Bool := false
      case' true => let BB : Bool := true
      all_goals
        refine SpecP.mono (m24 _) ?_
        rintro _ _ ⟨rfl, rfl⟩
        refine And.intro (fun h => Bool.noConfusion h) fun _ => ?_
        refine SpecP.mono (f25_spec t n1 p _) ?_
        rintro _ _ ⟨⟨_, rfl⟩ | ⟨h, _⟩, rfl⟩
        rotate_left
        · rw [ha] at h; cases h
        rw [ha]
        refine SpecP.mono (m26 _) ?_
        rintro _ _ ⟨rfl, rfl⟩
        first
          | refine And.intro (fun _ => ?_) fun h => Bool.noConfusion h
          | refine And.intro (fun h => Bool.noConfusion h) fun _ => ?_
        refine SpecP.mono (m14 _) ?_
        rintro _ _ ⟨rfl, rfl⟩
        refine And.intro (fun _ => ?_) fun h => Bool.noConfusion h
        refine SpecP.mono (f27_spec t n1 p _) ?_
        rintro _ _ ⟨rfl, rfl⟩
        rw [hr]
        refine And.intro (fun h => Bool.noConfusion h) fun _ => ?_
        refine LoopW.mk Nat (fun i => i ≤ l.length) (fun i => [(1, .ints n1 p), (2, .t (.sl n2 1 (tLs l))), (3, .ptr (.cur 24) 0), (7, .bool false), (8, .int 1), (9, nilV), (10, .int 1), (11, .bool BB), (12, .int (asksI t true l)), (13, .int 1), (14, .int (oth t l i)), (57, .t (.sl n2 1 (tLs l))), (58, .int (tLs l).length), (59, .int i)])
          (fun _ => ⟨out, [(24, .box (cellsTask t))]⟩) (fun i => l.length - i) 0 (Nat.zero_le _) ⟨rfl, rfl⟩ fun i hi0 => ?_
        refine And.intro (fun h6 => ?_) fun h6 => ?_
        · have hi : i < l.length := by have h6 : (i : Int) < _ := of_decide_eq_true h6; rw [tLs_len] at h6; omega
          refine And.intro (Int.natCast_nonneg _) (Exists.intro _ (And.intro (tLs_get hi) ?_))
          refine SpecP.mono (f27_spec t l[i].1 l[i].2 _) ?_
          rintro _ _ ⟨rfl, rfl⟩
          refine And.intro (fun h7 => ?_) fun h7 => ?_
          · have h7 : risingB l[i].2 t.facts.length = true := h7
            refine SpecP.mono (f28_spec t l[i].1 l[i].2 hi1 h7 _) ?_
            rintro _ _ ⟨rfl, rfl⟩
            refine And.intro (fun h8 => ?_) fun h8 => ?_
            · have h8 : closedB t l[i].2 = true := h8
              refine And.intro (by show (-9223372036854775808 : Int) ≤ (i : Int) + 1; omega) (And.intro (by show (i : Int) + 1 ≤ 9223372036854775807; omega) ?_)
              refine Exists.intro (i + 1) (And.intro (by show l.length - (i + 1) < l.length - i; omega) (And.intro hi (And.intro ?_ rfl)))
              simp only [oth_keep hi (show fineB t true l[i].2 = true by simp only [fineB, h7, h8]; rfl)]
              rfl
            · have h8 : closedB t l[i].2 = false := h8
              refine And.intro (by show (-9223372036854775808 : Int) ≤ (i : Int) + 1; omega) (And.intro (by show (i : Int) + 1 ≤ 9223372036854775807; omega) ?_)
              refine Exists.intro (i + 1) (And.intro (by show l.length - (i + 1) < l.length - i; omega) (And.intro hi (And.intro ?_ rfl)))
              simp only [oth_one hi (show fineB t true l[i].2 = false by simp only [fineB, h7, h8]; rfl)]
              rfl
          · have h7 : risingB l[i].2 t.facts.length = false := h7
            refine And.intro (by show (-9223372036854775808 : Int) ≤ (i : Int) + 1; omega) (And.intro (by show (i : Int) + 1 ≤ 9223372036854775807; omega) ?_)
            refine Exists.intro (i + 1) (And.intro (by show l.length - (i + 1) < l.length - i; omega) (And.intro hi (And.intro ?_ rfl)))
            simp only [oth_one hi (show fineB t true l[i].2 = false by simp only [fineB, h7]; rfl)]
            rfl
        have hi : i = l.length := by have h6 : ¬ (i : Int) < _ := of_decide_eq_false h6; rw [tLs_len] at h6; have hi0 : i ≤ l.length := hi0; omega
        subst hi
        rw [oth_all hi1]
        rcases ho2 with ho2 | ho2
        · have m30 := m30 ho2
          rw [ho2] at hB ⊢
          have hab : addB t l = BB := hB
          rw [hab] at m30
          repeat' first
            | refine And.intro (fun _ => ?_) fun h => Bool.noConfusion h
            | refine And.intro (fun h => Bool.noConfusion h) fun _ => ?_
            | (refine SpecP.mono (f7_spec _) ?_; rintro _ _ ⟨rfl, rfl⟩)
            | (refine SpecP.mono (m30 _) ?_; rintro _ _ ⟨rfl, rfl⟩)
            | refine And.intro ⟨rfl, rfl, rfl⟩ ?_
            | refine And.intro trivial ?_
            | exact Exists.intro [] (ret_bool rfl rfl)
        · rw [ho2] at hB ⊢
          first
            | (exfalso; revert hB; simp; done)
            | skip
          repeat' first
            | refine And.intro (fun _ => ?_) fun h => Bool.noConfusion h
            | refine And.intro (fun h => Bool.noConfusion h) fun _ => ?_
            | (refine SpecP.mono (f7_spec _) ?_; rintro _ _ ⟨rfl, rfl⟩)
            | (refine SpecP.mono (m30 _) ?_; rintro _ _ ⟨rfl, rfl⟩)
            | refine And.intro ⟨rfl, rfl, rfl⟩ ?_
            | refine And.intro trivial ?_
            | exact Exists.intro [] (ret_bool rfl rfl)
    · rw [ha] at m24
      have m28 := m28 hr
      have m29 := m29 hr
      generalize hcb : closedB t p = cb at *
      have m19 : ∀ c : List Int, ∀ out, SpecP Try.prog 19 [.ints c.isEmpty c, .ints c.isEmpty c] out fun r ro => r = .bool true ∧ ro = [] := fun c out => by
        have := f19_spec c.isEmpty c.isEmpty c c out
        rwa [show (c == c) = true by simp] at this
      cases B <;> cases cb
      case' false.false => let BB : Bool := false; let CC : Bool := false
      case' false.true => let BB : Bool := false; let CC : Bool := true
      case' true.false => let BB : Bool := true; let CC : Bool := false
      case' true.true => let BB : Bool := true; let CC : Bool := true
      all_goals
        refine SpecP.mono (m24 _) ?_
        rintro _ _ ⟨rfl, rfl⟩
        first
          | refine And.intro (fun _ => ?_) fun h => Bool.noConfusion h
          | refine And.intro (fun h => Bool.noConfusion h) fun _ => ?_
        refine SpecP.mono (f25_spec t n1 p _) ?_
        rintro _ _ ⟨⟨h, _⟩ | ⟨_, c, hc, rfl⟩, rfl⟩
        · exact absurd ha h
        refine SpecP.mono (m26 _) ?_
        rintro _ _ ⟨rfl, rfl⟩
        first
          | refine And.intro (fun _ => ?_) fun h => Bool.noConfusion h
          | refine And.intro (fun h => Bool.noConfusion h) fun _ => ?_
        refine SpecP.mono (m14 _) ?_
        rintro _ _ ⟨rfl, rfl⟩
        refine And.intro (fun _ => ?_) fun h => Bool.noConfusion h
        refine SpecP.mono (f27_spec t n1 p _) ?_
        rintro _ _ ⟨rfl, rfl⟩
        rw [hr]
        refine And.intro (fun _ => ?_) fun h => Bool.noConfusion h
        refine LoopW.mk Nat (fun i => i ≤ l.length) (fun i => [(1, .ints n1 p), (2, .t (.sl n2 1 (tLs l))), (3, .ptr (.cur 24) 0), (7, .bool CC), (8, .int 0), (9, (.ints c.isEmpty c)), (10, .int 0), (11, .bool BB), (12, .int (asksI t true l)), (13, .int 0), (14, .int (oth t l i)), (57, .t (.sl n2 1 (tLs l))), (58, .int (tLs l).length), (59, .int i)])
          (fun _ => ⟨out, [(24, .box (cellsTask t))]⟩) (fun i => l.length - i) 0 (Nat.zero_le _) ⟨rfl, rfl⟩ fun i hi0 => ?_
        refine And.intro (fun h6 => ?_) fun h6 => ?_
        · have hi : i < l.length := by have h6 : (i : Int) < _ := of_decide_eq_true h6; rw [tLs_len] at h6; omega
          refine And.intro (Int.natCast_nonneg _) (Exists.intro _ (And.intro (tLs_get hi) ?_))
          refine SpecP.mono (f27_spec t l[i].1 l[i].2 _) ?_
          rintro _ _ ⟨rfl, rfl⟩
          refine And.intro (fun h7 => ?_) fun h7 => ?_
          · have h7 : risingB l[i].2 t.facts.length = true := h7
            refine SpecP.mono (f28_spec t l[i].1 l[i].2 hi1 h7 _) ?_
            rintro _ _ ⟨rfl, rfl⟩
            refine And.intro (fun h8 => ?_) fun h8 => ?_
            · have h8 : closedB t l[i].2 = true := h8
              refine And.intro (by show (-9223372036854775808 : Int) ≤ (i : Int) + 1; omega) (And.intro (by show (i : Int) + 1 ≤ 9223372036854775807; omega) ?_)
              refine Exists.intro (i + 1) (And.intro (by show l.length - (i + 1) < l.length - i; omega) (And.intro hi (And.intro ?_ rfl)))
              simp only [oth_keep hi (show fineB t true l[i].2 = true by simp only [fineB, h7, h8]; rfl)]
              rfl
            · have h8 : closedB t l[i].2 = false := h8
              refine And.intro (by show (-9223372036854775808 : Int) ≤ (i : Int) + 1; omega) (And.intro (by show (i : Int) + 1 ≤ 9223372036854775807; omega) ?_)
              refine Exists.intro (i + 1) (And.intro (by show l.length - (i + 1) < l.length - i; omega) (And.intro hi (And.intro ?_ rfl)))
              simp only [oth_one hi (show fineB t true l[i].2 = false by simp only [fineB, h7, h8]; rfl)]
              rfl
          · have h7 : risingB l[i].2 t.facts.length = false := h7
            refine And.intro (by show (-9223372036854775808 : Int) ≤ (i : Int) + 1; omega) (And.intro (by show (i : Int) + 1 ≤ 9223372036854775807; omega) ?_)
            refine Exists.intro (i + 1) (And.intro (by show l.length - (i + 1) < l.length - i; omega) (And.intro hi (And.intro ?_ rfl)))
            simp only [oth_one hi (show fineB t true l[i].2 = false by simp only [fineB, h7]; rfl)]
            rfl
        have hi : i = l.length := by have h6 : ¬ (i : Int) < _ := of_decide_eq_false h6; rw [tLs_len] at h6; have hi0 : i ≤ l.length := hi0; omega
        subst hi
        rw [oth_all hi1]
        rcases ho2 with ho2 | ho2
        · have m30 := m30 ho2
          rw [ho2] at hB ⊢
          have hab : addB t l = BB := hB
          rw [hab] at m30
          repeat' first
            | refine And.intro (fun _ => ?_) fun h => Bool.noConfusion h
            | refine And.intro (fun h => Bool.noConfusion h) fun _ => ?_
            | (refine SpecP.mono (f7_spec _) ?_; rintro _ _ ⟨rfl, rfl⟩)
            | (refine SpecP.mono (m28 _) ?_; rintro _ _ ⟨rfl, rfl⟩)
            | (refine SpecP.mono (m19 _ _) ?_; rintro _ _ ⟨rfl, rfl⟩)
            | (refine SpecP.mono (m30 _) ?_; rintro _ _ ⟨rfl, rfl⟩)
            | (refine SpecP.mono (m29 _) ?_; rintro _ _ ⟨⟨c2, hc2, rfl⟩, rfl⟩; obtain rfl := hc2.uniq hc)
            | refine And.intro ⟨rfl, rfl, rfl⟩ ?_
            | refine And.intro trivial ?_
            | exact Exists.intro [] (ret_bool rfl rfl)
        · rw [ho2] at hB ⊢
          first
            | (exfalso; revert hB; simp; done)
            | skip
          repeat' first
            | refine And.intro (fun _ => ?_) fun h => Bool.noConfusion h
            | refine And.intro (fun h => Bool.noConfusion h) fun _ => ?_
            | (refine SpecP.mono (f7_spec _) ?_; rintro _ _ ⟨rfl, rfl⟩)
            | (refine SpecP.mono (m28 _) ?_; rintro _ _ ⟨rfl, rfl⟩)
            | (refine SpecP.mono (m19 _ _) ?_; rintro _ _ ⟨rfl, rfl⟩)
            | (refine SpecP.mono (m30 _) ?_; rintro _ _ ⟨rfl, rfl⟩)
            | (refine SpecP.mono (m29 _) ?_; rintro _ _ ⟨⟨c2, hc2, rfl⟩, rfl⟩; obtain rfl := hc2.uniq hc)
            | refine And.intro ⟨rfl, rfl, rfl⟩ ?_
            | refine And.intro trivial ?_
            | exact Exists.intro [] (ret_bool rfl rfl)

end Go.Fw

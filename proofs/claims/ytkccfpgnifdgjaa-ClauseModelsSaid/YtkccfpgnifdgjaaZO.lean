/- Texts that lead to the law, part 15. -/
import Derived.Test.YtkccfpgnifdgjaaZN

/- ClauseModels. -/
namespace Go.Fw
open Go Go.Proofs
set_option maxRecDepth 10000

theorem br_pos {A B : Prop} {x : Bool} (h : x = true) (a : A) : And (x = true → A) (x = false → B) := ⟨fun _ => a, fun h2 => (by rw [h] at h2; cases h2)⟩
theorem br_neg {A B : Prop} {x : Bool} (h : x = false) (b : B) : And (x = true → A) (x = false → B) := ⟨fun h2 => (by rw [h] at h2; cases h2), fun _ => b⟩
theorem f8_use {F : LV → Fr → Prop} (out : List Fr) (h : F (.bool true) []) : SpecP Try.prog 8 [] out F := SpecP.mono (f8_spec out) fun r ro h2 => by rw [h2.1, h2.2]; exact h
set_option maxHeartbeats 2000000 in
theorem f4_spec (t : Task) (n1 : Bool) (p : List Int) (n : Int) (n2 : Bool) (m : List Bool) (out : List Fr) : SpecP Try.prog 4 [.task t, .ints n1 p, .int n, .bools n2 m] out fun r ro => r = .bool true ∧ ro = [] := by
  refine spec_body cx_ok [] [] (fn := Try.f4) (by kernel_rfl) rfl (by kernel_rfl) rfl (by unfold FnOK; kernel_rfl) fun hok => ?_
  have ep : (p.map tI).length = p.length := List.length_map ..
  have em : (m.map tB).length = m.length := List.length_map ..
  refine SpecP.mono (f16_spec t 300 []) ?_
  rintro _ _ ⟨b, rfl, rfl⟩
  refine And.intro (fun h1 => ?_) fun h1 => ?_
  rotate_left
  · exact f8_use _ (br_pos rfl (Exists.intro [] (And.intro rfl rfl)))
  refine And.intro (fun h2 => ?_) fun h2 => ?_
  · exact f8_use _ (br_pos rfl (Exists.intro [] (And.intro rfl rfl)))
  refine And.intro (fun h3 => ?_) fun h3 => ?_
  · exact f8_use _ (br_pos rfl (Exists.intro [] (And.intro rfl rfl)))
  have hp : p.length ≤ 100 := by have := of_decide_eq_false h2; omega
  have m17 := f17_spec t n1 p []
  have m18 := f18_spec t n n2 m []
  by_cases ht : isB t = true
  rotate_left
  · have ht : isB t = false := by simpa using ht
    refine SpecP.mono m17 ?_
    rintro _ _ ⟨hM, rfl⟩
    cases hM with
    | none h _ => rw [ht] at h; cases h
    | large h _ _ _ => rw [ht] at h; cases h
    | ok h _ _ _ => rw [ht] at h; cases h
    | task _ =>
    have hl : lenI t n = 10 := by unfold lenI; rw [ht]; rfl
    refine SpecP.mono m18 ?_
    rintro _ _ ⟨hD, rfl⟩
    cases hD with
    | none h _ => rw [hl] at h; cases h
    | ok _ h _ => rw [hl] at h; cases h
    | err e h _ =>
    rw [hl] at h
    subst h
    refine SpecP.mono (f19_spec t []) ?_
    rintro _ _ ⟨rfl, rfl⟩
    refine br_neg ht ?_
    repeat first
      | refine br_pos (by decide) ?_
      | refine br_neg (by decide) ?_
      | refine And.intro (by decide) ?_
      | refine And.intro (by omega) ?_
    exact f8_use _ (br_pos rfl (Exists.intro [] (And.intro rfl rfl)))
  have TK := task_ok ht
  have hF := TK.facts
  have hwd : wdt t ≤ 200000 := by have := TK.acts; have := effs_le TK; unfold wdt; omega
  have hnw : p.length * wdt t ≤ 100 * 200000 := Nat.mul_le_mul hp hwd
  have m21 := f21_spec t p.length TK (by omega)
  have hnv : ∀ {A : Prop}, ¬ (p.length ≤ 20 ∧ Valid t t.init p) → p.length ≤ 20 → Valid t t.init p → A := fun h a b => absurd ⟨a, b⟩ h
  refine SpecP.mono m17 ?_
  rintro _ _ ⟨hM, rfl⟩
  cases hM with
  | task h => rw [ht] at h; cases h
  | none _ hv =>
    refine SpecP.mono m18 ?_
    rintro _ _ ⟨hD, rfl⟩
    cases hD
    all_goals
      refine SpecP.mono (f19_spec t []) ?_
      rintro _ _ ⟨rfl, rfl⟩
      refine br_pos ht ?_
      refine SpecP.mono (f20_spec t t.ni n1 t.init p TK (init_rising ht) []) ?_
      rintro _ _ (⟨v1, rfl, rfl⟩ | ⟨v1, rfl, rfl⟩)
      all_goals
        repeat first
          | refine br_pos (by decide) ?_
          | refine br_neg (by decide) ?_
          | refine And.intro (by decide) ?_
          | refine And.intro (by omega) ?_
        try refine And.intro (fun h5 => ?_) fun h5 => hnv hv (by have := of_decide_eq_false h5; omega) v1
        repeat first
          | refine br_pos (by decide) ?_
          | refine br_neg (by decide) ?_
          | refine And.intro (by decide) ?_
          | refine And.intro (by omega) ?_
        refine SpecP.mono (f24_spec t n []) ?_
        rintro _ _ ⟨rfl, rfl⟩
        first
          | (rename_i e h he
             refine br_pos (bne_iff_ne.2 (by rw [h]; exact he)) ?_
             refine br_pos (beq_iff_eq.2 h.symm) ?_
             repeat first
               | refine br_pos (by decide) ?_
               | refine br_neg (by decide) ?_
               | refine And.intro (by decide) ?_
               | refine And.intro (by omega) ?_
             exact f8_use _ (br_pos rfl (Exists.intro [] (And.intro rfl rfl))))
          | (rename_i h0 h2
             obtain ⟨_, hn0, hn1⟩ := lenI_ok h0
             obtain ⟨N, rfl⟩ := Int.eq_ofNat_of_zero_le hn0
             refine br_neg (by rw [h0]; rfl) ?_
             refine SpecP.mono (f25_spec t N n2 m ht (by omega) []) ?_
             rintro _ _ ⟨(⟨q, hq, rfl⟩ | ⟨hq, rfl⟩), rfl⟩
             · exact absurd hq (h2 q)
             repeat first
               | refine br_pos (by decide) ?_
               | refine br_neg (by decide) ?_
               | refine And.intro (by decide) ?_
               | refine And.intro (by omega) ?_
             exact f8_use _ (br_pos rfl (Exists.intro [] (And.intro rfl rfl))))
          | (rename_i q h0 h2
             obtain ⟨_, hn0, hn1⟩ := lenI_ok h0
             obtain ⟨N, rfl⟩ := Int.eq_ofNat_of_zero_le hn0
             refine br_neg (by rw [h0]; rfl) ?_
             refine SpecP.mono (f25_spec t N n2 m ht (by omega) []) ?_
             rintro _ _ ⟨(⟨q', hq, rfl⟩ | ⟨hq, rfl⟩), rfl⟩
             · have := h2.eq hq
               subst this
               repeat first
                 | refine br_pos (by decide) ?_
                 | refine br_neg (by decide) ?_
                 | refine And.intro (by decide) ?_
                 | refine And.intro (by omega) ?_
               refine SpecP.mono (f26_spec _ _ q q _) ?_
               rintro _ _ ⟨rfl, rfl⟩
               refine br_pos (beq_self_eq_true q) ?_
               exact f8_use _ (br_pos rfl (Exists.intro [] (And.intro rfl rfl)))
             · exact absurd h2 (hq q))
  | large _ l1 l2 l3 =>
    refine SpecP.mono m18 ?_
    rintro _ _ ⟨hD, rfl⟩
    cases hD
    all_goals
      refine SpecP.mono (f19_spec t []) ?_
      rintro _ _ ⟨rfl, rfl⟩
      refine br_pos ht ?_
      refine SpecP.mono (f20_spec t t.ni n1 t.init p TK (init_rising ht) []) ?_
      rintro _ _ (⟨v1, rfl, rfl⟩ | ⟨v1, rfl, rfl⟩)
      · exact absurd l2 v1
      repeat first
        | refine br_pos (by decide) ?_
        | refine br_neg (by decide) ?_
        | refine And.intro (by decide) ?_
        | refine And.intro (by omega) ?_
      refine br_neg (by rw [ep]; exact decide_eq_false (by omega)) ?_
      refine SpecP.mono (by rw [ep]; exact m21 []) ?_
      rintro _ _ ⟨rfl, rfl⟩
      refine br_pos (decide_eq_true (by omega)) ?_
      repeat first
        | refine br_pos (by decide) ?_
        | refine br_neg (by decide) ?_
        | refine And.intro (by decide) ?_
        | refine And.intro (by omega) ?_
      refine SpecP.mono (f24_spec t n []) ?_
      rintro _ _ ⟨rfl, rfl⟩
      first
        | (rename_i e h he
           refine br_pos (bne_iff_ne.2 (by rw [h]; exact he)) ?_
           refine br_pos (beq_iff_eq.2 h.symm) ?_
           repeat first
             | refine br_pos (by decide) ?_
             | refine br_neg (by decide) ?_
             | refine And.intro (by decide) ?_
             | refine And.intro (by omega) ?_
           exact f8_use _ (br_pos rfl (Exists.intro [] (And.intro rfl rfl))))
        | (rename_i h0 h2
           obtain ⟨_, hn0, hn1⟩ := lenI_ok h0
           obtain ⟨N, rfl⟩ := Int.eq_ofNat_of_zero_le hn0
           refine br_neg (by rw [h0]; rfl) ?_
           refine SpecP.mono (f25_spec t N n2 m ht (by omega) []) ?_
           rintro _ _ ⟨(⟨q, hq, rfl⟩ | ⟨hq, rfl⟩), rfl⟩
           · exact absurd hq (h2 q)
           repeat first
             | refine br_pos (by decide) ?_
             | refine br_neg (by decide) ?_
             | refine And.intro (by decide) ?_
             | refine And.intro (by omega) ?_
           exact f8_use _ (br_pos rfl (Exists.intro [] (And.intro rfl rfl))))
        | (rename_i q h0 h2
           obtain ⟨_, hn0, hn1⟩ := lenI_ok h0
           obtain ⟨N, rfl⟩ := Int.eq_ofNat_of_zero_le hn0
           refine br_neg (by rw [h0]; rfl) ?_
           refine SpecP.mono (f25_spec t N n2 m ht (by omega) []) ?_
           rintro _ _ ⟨(⟨q', hq, rfl⟩ | ⟨hq, rfl⟩), rfl⟩
           · have := h2.eq hq
             subst this
             repeat first
               | refine br_pos (by decide) ?_
               | refine br_neg (by decide) ?_
               | refine And.intro (by decide) ?_
               | refine And.intro (by omega) ?_
             refine SpecP.mono (f26_spec _ _ q q _) ?_
             rintro _ _ ⟨rfl, rfl⟩
             refine br_pos (beq_self_eq_true q) ?_
             exact f8_use _ (br_pos rfl (Exists.intro [] (And.intro rfl rfl)))
           · exact absurd h2 (hq q))
  | ok _ l1 l2 l3 => 
    refine SpecP.mono m18 ?_
    rintro _ _ ⟨hD, rfl⟩
    cases hD
    all_goals
      refine SpecP.mono (f19_spec t []) ?_
      rintro _ _ ⟨rfl, rfl⟩
      refine br_pos ht ?_
      refine SpecP.mono (f20_spec t t.ni n1 t.init p TK (init_rising ht) []) ?_
      rintro _ _ (⟨v1, rfl, rfl⟩ | ⟨v1, rfl, rfl⟩)
      · exact absurd l2 v1
      repeat first
        | refine br_pos (by decide) ?_
        | refine br_neg (by decide) ?_
        | refine And.intro (by decide) ?_
        | refine And.intro (by omega) ?_
      refine br_neg (by rw [ep]; exact decide_eq_false (by omega)) ?_
      refine SpecP.mono (by rw [ep]; exact m21 []) ?_
      rintro _ _ ⟨rfl, rfl⟩
      refine br_neg (decide_eq_false (by omega)) ?_
      repeat first
        | refine br_pos (by decide) ?_
        | refine br_neg (by decide) ?_
        | refine And.intro (by decide) ?_
        | refine And.intro (by omega) ?_
      refine SpecP.mono (f23_spec t n1 p ht l2 hp _) ?_
      rintro _ _ ⟨rfl, rfl⟩
      refine SpecP.mono (f22_spec _ _ (modelOf t p) (modelOf t p) _) ?_
      rintro _ _ ⟨rfl, rfl⟩
      refine br_pos (beq_self_eq_true _) ?_
      repeat first
        | refine br_pos (by decide) ?_
        | refine br_neg (by decide) ?_
        | refine And.intro (by decide) ?_
        | refine And.intro (by omega) ?_
      refine SpecP.mono (f24_spec t n []) ?_
      rintro _ _ ⟨rfl, rfl⟩
      first
        | (rename_i e h he
           refine br_pos (bne_iff_ne.2 (by rw [h]; exact he)) ?_
           refine br_pos (beq_iff_eq.2 h.symm) ?_
           repeat first
             | refine br_pos (by decide) ?_
             | refine br_neg (by decide) ?_
             | refine And.intro (by decide) ?_
             | refine And.intro (by omega) ?_
           exact f8_use _ (br_pos rfl (Exists.intro [] (And.intro rfl rfl))))
        | (rename_i h0 h2
           obtain ⟨_, hn0, hn1⟩ := lenI_ok h0
           obtain ⟨N, rfl⟩ := Int.eq_ofNat_of_zero_le hn0
           refine br_neg (by rw [h0]; rfl) ?_
           refine SpecP.mono (f25_spec t N n2 m ht (by omega) []) ?_
           rintro _ _ ⟨(⟨q, hq, rfl⟩ | ⟨hq, rfl⟩), rfl⟩
           · exact absurd hq (h2 q)
           repeat first
             | refine br_pos (by decide) ?_
             | refine br_neg (by decide) ?_
             | refine And.intro (by decide) ?_
             | refine And.intro (by omega) ?_
           exact f8_use _ (br_pos rfl (Exists.intro [] (And.intro rfl rfl))))
        | (rename_i q h0 h2
           obtain ⟨_, hn0, hn1⟩ := lenI_ok h0
           obtain ⟨N, rfl⟩ := Int.eq_ofNat_of_zero_le hn0
           refine br_neg (by rw [h0]; rfl) ?_
           refine SpecP.mono (f25_spec t N n2 m ht (by omega) []) ?_
           rintro _ _ ⟨(⟨q', hq, rfl⟩ | ⟨hq, rfl⟩), rfl⟩
           · have := h2.eq hq
             subst this
             repeat first
               | refine br_pos (by decide) ?_
               | refine br_neg (by decide) ?_
               | refine And.intro (by decide) ?_
               | refine And.intro (by omega) ?_
             refine SpecP.mono (f26_spec _ _ q q _) ?_
             rintro _ _ ⟨rfl, rfl⟩
             refine br_pos (beq_self_eq_true q) ?_
             exact f8_use _ (br_pos rfl (Exists.intro [] (And.intro rfl rfl)))
           · exact absurd h2 (hq q))
end Go.Fw

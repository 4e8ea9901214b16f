/- The law PotentFlows answers true at every input, and leaves its arguments as they were: no condition. -/
import Derived.Test.YtmcbncmklopoaaaZQ
import Derived.Carry
namespace Go.Fw
open Go Go.Proofs Go.ChangeShapes Go.WideShapes Go.ChangeAt Go.RowKit Go.Proofs.Ytmcbncmklopoaaa

set_option maxRecDepth 100000 in
theorem liftedPotentFlows (hs : ∀ (t0 : Task) (b1 : Bool) (s1 : List Int) (b2 : Bool) (s2 : List Int) (a3 : Int) (b3 : Bool) (s3 : List Int), SpecP Try.prog 5 [.task t0, .ints b1 s1, .ints b2 s2, .flow a3 b3 s3] [] fun r ro => r = .bool true ∧ ro = []) (os : Os) (started : os.Started) (H : Type) (enc : TypeId × Value → H) :
    ReturnsInHanded {} Try.checked os 5 .any (Rows.potentFlowsSpec.pre6 enc Try.prog Try.f5 Rows.potentFlowsRow.domain false) (Rows.potentFlowsSpec.post enc Try.prog Try.f5 false true false false) := by
  refine returnsInHanded_of_change (C := Try.checked) own started (by kernel_rfl) Try.func5
    (ChangeSpec.witness6 (enc := enc) (C := Try.checked) false ⟨#[], #[.agg #[.slice none 0 0, .slice none 0 0, .slice none 0 0, .slice none 0 0], .slice none 0 0, .slice none 0 0, .agg #[.int .i64 0, .slice none 0 0]], []⟩ 8 (by kernel_rfl) (by kernel_rfl) (by kernel_rfl) (by kernel_rfl)) ?_
  intro W base args ds gs before hval0 hW _ _
  have hval : ∀ (j : Nat) t v, Try.f5.params[j]? = some t → args[j]? = some v → Value.okWide Try.prog W .any base t v := hval0
  have hW' := hW
  obtain ⟨p, q, hA0, hV, rfl, _, _⟩ := hW
  have hA : DataW.TrodAll enc Try.prog W 0 (fun _ => true) true Try.f5.params.toList args.toList ds p := hA0
  rw [Try.params5] at hA hval
  obtain ⟨v0, v1, v2, v3, d0, d1, d2, d3, p0, p1, p2, p3, rfl, rfl, rfl, h0, h1, h2, h3⟩ := trodAll_four hA
  obtain ⟨rfl, rfl⟩ := trodVars_none hV
  clear hA0 hval0
  simp only [List.append_nil] at hW'
  have k0 := h0
  obtain ⟨_, q0⟩ := h0
  have k1 := h1
  obtain ⟨_, q1⟩ := h1
  have k2 := h2
  obtain ⟨_, q2⟩ := h2
  have k3 := h3
  obtain ⟨_, q3⟩ := h3
  obtain ⟨t0, r0⟩ := rd_task q0
  obtain ⟨fs0, u0⟩ := und27
  obtain ⟨cs0, w0, _⟩ := okWide_struct u0 (hval 0 27 v0 rfl rfl)
  have g0 := vl_task r0 ⟨cs0, w0⟩
  obtain ⟨b1, s1, r1⟩ := rd_ints q1
  have g1 := vl_ints r1 (okWide_slice und23 (hval 1 23 v1 rfl rfl))
  obtain ⟨b2, s2, r2⟩ := rd_ints q2
  have g2 := vl_ints r2 (okWide_slice und23 (hval 2 23 v2 rfl rfl))
  obtain ⟨a3, b3, s3, r3⟩ := rd_flow q3
  obtain ⟨fs3, u3⟩ := und33
  obtain ⟨cs3, w3, _⟩ := okWide_struct u3 (hval 3 33 v3 rfl rfl)
  have g3 := vl_flow r3 ⟨cs3, w3⟩
  refine ((hs t0 b1 s1 b2 s2 a3 b3 s3).calls noKeys (oldB W) W [v0, v1, v2, v3] (start_wr W) ⟨rfl, fun i x v hx hv => ?_⟩).mono ?_
  · match i with
    | 0 => simp at hx hv; subst hx; subst hv; exact g0
    | 1 => simp at hx hv; subst hx; subst hv; exact g1
    | 2 => simp at hx hv; subst hx; subst hv; exact g2
    | 3 => simp at hx hv; subst hx; subst hv; exact g3
    | i + 4 => simp at hx
  rintro e W' ⟨v, r, ro, out', β', RO', rfl, ⟨rfl, rfl⟩, hw, hr⟩
  have hv := vl_true hr
  subst hv
  have hb := wr_below hw
  refine ⟨_, rfl, _, _, _, [], _, [], hW', ?_, trodAll_mk4 (Below.trod laidOut (by kernel_rfl) (of_decide_eq_true (by kernel_rfl)) k0 hb fun x hx => by have := hW'.lt x (by simp [hx]); simpa using this) (Below.trod laidOut (by kernel_rfl) (of_decide_eq_true (by kernel_rfl)) k1 hb fun x hx => by have := hW'.lt x (by simp [hx]); simpa using this) (Below.trod laidOut (by kernel_rfl) (of_decide_eq_true (by kernel_rfl)) k2 hb fun x hx => by have := hW'.lt x (by simp [hx]); simpa using this) (Below.trod laidOut (by kernel_rfl) (of_decide_eq_true (by kernel_rfl)) k3 hb fun x hx => by have := hW'.lt x (by simp [hx]); simpa using this), rfl, hb.frame _, fun h => by cases h⟩
  exact trodAll_mk1 (shut_bool und4 _)

theorem rowPotentFlows (hs : ∀ (t0 : Task) (b1 : Bool) (s1 : List Int) (b2 : Bool) (s2 : List Int) (a3 : Int) (b3 : Bool) (s3 : List Int), SpecP Try.prog 5 [.task t0, .ints b1 s1, .ints b2 s2, .flow a3 b3 s3] [] fun r ro => r = .bool true ∧ ro = []) : Rows.PotentFlowsSaid :=
  OpenClaim.holds_of_wide 5 Try.f5 rfl rfl rfl rfl rfl rfl rfl ⟨rfl, rfl, rfl, rfl, rfl⟩ rfl rfl rfl rfl rfl (by kernel_rfl) Try.func5 (by kernel_rfl)
    (of_decide_eq_true (by kernel_rfl)) (by unfold Func.isWrapper; first | (rw [if_pos (by decide +kernel)]; kernel_rfl) | (rw [if_neg (by decide +kernel)]; exact ⟨rfl, rfl⟩))
    (fun os started H enc _ => liftedPotentFlows hs os started H enc)
end Go.Fw

namespace Go.Proofs.Ytmcbncmklopoaaa

theorem potentFlows_holds : Rows.PotentFlowsSaid := Go.Fw.rowPotentFlows fun t0 b1 s1 b2 s2 a3 b3 s3 => Go.Fw.f5_spec t0 b1 s1 b2 s2 a3 b3 s3 []

end Go.Proofs.Ytmcbncmklopoaaa

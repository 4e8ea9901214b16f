/- The law ClauseModels answers true at every input, and leaves its arguments as they were: no condition. -/
import Derived.Test.YtkccfpgnifdgjaaZO
import Derived.Test.YtkccfpgnifdgjaaZP
import Derived.Carry
namespace Go.Fw
open Go Go.Proofs Go.ChangeShapes Go.WideShapes Go.ChangeAt Go.RowKit Go.Proofs.Ytkccfpgnifdgjaa

set_option maxRecDepth 100000 in
theorem liftedClauseModels (hs : ∀ (t0 : Task) (b1 : Bool) (s1 : List Int) (n2 : Int) (b3 : Bool) (s3 : List Bool), SpecP Try.prog 4 [.task t0, .ints b1 s1, .int n2, .bools b3 s3] [] fun r ro => r = .bool true ∧ ro = []) (os : Os) (started : os.Started) (H : Type) (enc : TypeId × Value → H) :
    ReturnsInHanded {} Try.checked os 4 .any (Rows.clauseModelsSpec.pre6 enc Try.prog Try.f4 Rows.clauseModelsRow.domain false) (Rows.clauseModelsSpec.post enc Try.prog Try.f4 false true false false) := by
  refine returnsInHanded_of_change (C := Try.checked) own started (by kernel_rfl) Try.func4
    (ChangeSpec.witness6 (enc := enc) (C := Try.checked) false ⟨#[], #[.agg #[.slice none 0 0, .slice none 0 0, .slice none 0 0, .slice none 0 0], .slice none 0 0, .int .i64 0, .slice none 0 0], []⟩ 8 (by kernel_rfl) (by kernel_rfl) (by kernel_rfl) (by kernel_rfl)) ?_
  intro W base args ds gs before hval0 hW _ _
  have hval : ∀ (j : Nat) t v, Try.f4.params[j]? = some t → args[j]? = some v → Value.okWide Try.prog W .any base t v := hval0
  have hW' := hW
  obtain ⟨p, q, hA0, hV, rfl, _, _⟩ := hW
  have hA : DataW.TrodAll enc Try.prog W 0 (fun _ => true) true Try.f4.params.toList args.toList ds p := hA0
  rw [Try.params4] at hA hval
  obtain ⟨v0, v1, v2, v3, d0, d1, d2, d3, p0, p1, p2, p3, rfl, rfl, rfl, h0, h1, h2, h3⟩ := trodAll_four hA
  obtain ⟨rfl, rfl⟩ := trodVars_none hV
  clear hA0 hval0
  simp only [List.append_nil] at hW'
  have k0 := h0
  obtain ⟨_, q0⟩ := h0
  have k1 := h1
  obtain ⟨_, q1⟩ := h1
  have k2 := h2
  have k3 := h3
  obtain ⟨_, q3⟩ := h3
  obtain ⟨t0, r0⟩ := rd_task q0
  obtain ⟨fs0, u0⟩ := und44
  obtain ⟨cs0, w0, _⟩ := okWide_struct u0 (hval 0 44 v0 rfl rfl)
  have g0 := vl_task r0 ⟨cs0, w0⟩
  obtain ⟨b1, s1, r1⟩ := rd_ints q1
  have g1 := vl_ints r1 (okWide_slice und40 (hval 1 40 v1 rfl rfl))
  obtain ⟨n2, e2⟩ := okWide_int und3 (hval 2 3 v2 rfl rfl)
  have g2 : VL noKeys (oldB W) W (.int n2) v2 := vl_num e2
  obtain ⟨b3, s3, r3⟩ := rd_bools q3
  have g3 := vl_sl r3 (okWide_slice und25 (hval 3 25 v3 rfl rfl))
  refine ((hs t0 b1 s1 n2 b3 s3).calls noKeys (oldB W) W [v0, v1, v2, v3] (start_wr W) ⟨rfl, fun i x v hx hv => ?_⟩).mono ?_
  · match i with
    | 0 => simp at hx hv; subst hx; subst hv; exact g0
    | 1 => simp at hx hv; subst hx; subst hv; exact g1
    | 2 => simp at hx hv; subst hx; subst hv; exact g2
    | 3 => simp at hx hv; subst hx; subst hv; exact g3
    | i + 4 => simp at hx
  rintro e W' ⟨v, r, ro, out', β', RO', rfl, ⟨rfl, rfl⟩, hw, hr⟩
  have hv := vl_true hr
  subst hv
  have hb := wr_below hw
  refine ⟨_, rfl, _, _, _, [], _, [], hW', ?_, trodAll_mk4 (Below.trod laidOut (by kernel_rfl) (of_decide_eq_true (by kernel_rfl)) k0 hb fun x hx => by have := hW'.lt x (by simp [hx]); simpa using this) (Below.trod laidOut (by kernel_rfl) (of_decide_eq_true (by kernel_rfl)) k1 hb fun x hx => by have := hW'.lt x (by simp [hx]); simpa using this) (Below.trod laidOut (by kernel_rfl) (of_decide_eq_true (by kernel_rfl)) k2 hb fun x hx => by have := hW'.lt x (by simp [hx]); simpa using this) (Below.trod laidOut (by kernel_rfl) (of_decide_eq_true (by kernel_rfl)) k3 hb fun x hx => by have := hW'.lt x (by simp [hx]); simpa using this), rfl, hb.frame _, fun h => by cases h⟩
  exact trodAll_mk1 (shut_bool und4 _)

theorem rowClauseModels (hs : ∀ (t0 : Task) (b1 : Bool) (s1 : List Int) (n2 : Int) (b3 : Bool) (s3 : List Bool), SpecP Try.prog 4 [.task t0, .ints b1 s1, .int n2, .bools b3 s3] [] fun r ro => r = .bool true ∧ ro = []) : Rows.ClauseModelsSaid :=
  OpenClaim.holds_of_wide 4 Try.f4 rfl rfl rfl rfl rfl rfl rfl ⟨rfl, rfl, rfl, rfl, rfl⟩ rfl rfl rfl rfl rfl (by kernel_rfl) Try.func4 (by kernel_rfl)
    (of_decide_eq_true (by kernel_rfl)) (by unfold Func.isWrapper; first | (rw [if_pos (by decide +kernel)]; kernel_rfl) | (rw [if_neg (by decide +kernel)]; exact ⟨rfl, rfl⟩))
    (fun os started H enc _ => liftedClauseModels hs os started H enc)
end Go.Fw

namespace Go.Proofs.Ytkccfpgnifdgjaa

theorem clauseModels_holds : Rows.ClauseModelsSaid := Go.Fw.rowClauseModels fun t0 b1 s1 n2 b3 s3 => Go.Fw.f4_spec t0 b1 s1 n2 b3 s3 []

end Go.Proofs.Ytkccfpgnifdgjaa

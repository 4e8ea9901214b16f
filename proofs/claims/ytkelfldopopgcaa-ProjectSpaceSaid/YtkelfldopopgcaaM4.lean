/- The law ProjectSpace answers true at every input, and leaves its arguments as they were: no condition. -/
import Derived.Test.YtkelfldopopgcaaZU
import Derived.Test.YtkelfldopopgcaaZR
namespace Go.Fw
open Go Go.Proofs Go.ChangeShapes Go.WideShapes Go.ChangeAt Go.RowKit Go.Proofs.Ytkelfldopopgcaa

set_option maxRecDepth 100000 in
theorem liftedProjectSpace (hs : ∀ (b0 : Bool) (s0 : List Int) (n1 : Int), SpecP Try.prog 3 [.ints b0 s0, .int n1] [] fun r ro => r = .bool true ∧ ro = []) (os : Os) (started : os.Started) (H : Type) (enc : TypeId × Value → H) :
    ReturnsInHanded {} Try.checked os 3 .any (Rows.projectSpaceSpec.pre6 enc Try.prog Try.f3 Rows.projectSpaceRow.domain false) (Rows.projectSpaceSpec.post enc Try.prog Try.f3 false true false false) := by
  refine returnsInHanded_of_change (C := Try.checked) own started (by kernel_rfl) Try.func3
    (ChangeSpec.witness6 (enc := enc) (C := Try.checked) false ⟨#[], #[.slice none 0 0, .int .i64 0], []⟩ 8 (by kernel_rfl) (by kernel_rfl) (by kernel_rfl) (by kernel_rfl)) ?_
  intro W base args ds gs before hval0 hW _ _
  have hval : ∀ (j : Nat) t v, Try.f3.params[j]? = some t → args[j]? = some v → Value.okWide Try.prog W .any base t v := hval0
  have hW' := hW
  obtain ⟨p, q, hA0, hV, rfl, _, _⟩ := hW
  have hA : DataW.TrodAll enc Try.prog W 0 (fun _ => true) true Try.f3.params.toList args.toList ds p := hA0
  rw [Try.params3] at hA hval
  obtain ⟨v0, v1, d0, d1, p0, p1, rfl, rfl, rfl, h0, h1⟩ := trodAll_two hA
  obtain ⟨rfl, rfl⟩ := trodVars_none hV
  clear hA0 hval0
  simp only [List.append_nil] at hW'
  have k0 := h0
  obtain ⟨_, q0⟩ := h0
  have k1 := h1
  obtain ⟨b0, s0, r0⟩ := rd_ints q0
  have g0 := vl_ints r0 (okWide_slice und22 (hval 0 22 v0 rfl rfl))
  obtain ⟨n1, e1⟩ := okWide_int und3 (hval 1 3 v1 rfl rfl)
  have g1 : VL noKeys (oldB W) W (.int n1) v1 := vl_num e1
  refine ((hs b0 s0 n1).calls noKeys (oldB W) W [v0, v1] (start_wr W) ⟨rfl, fun i x v hx hv => ?_⟩).mono ?_
  · match i with
    | 0 => simp at hx hv; subst hx; subst hv; exact g0
    | 1 => simp at hx hv; subst hx; subst hv; exact g1
    | i + 2 => simp at hx
  rintro e W' ⟨v, r, ro, out', β', RO', rfl, ⟨rfl, rfl⟩, hw, hr⟩
  have hv := vl_true hr
  subst hv
  have hb := wr_below hw
  refine ⟨_, rfl, _, _, _, [], _, [], hW', ?_, trodAll_mk2 (Below.trod laidOut (by kernel_rfl) (of_decide_eq_true (by kernel_rfl)) k0 hb fun x hx => by have := hW'.lt x (by simp [hx]); simpa using this) (Below.trod laidOut (by kernel_rfl) (of_decide_eq_true (by kernel_rfl)) k1 hb fun x hx => by have := hW'.lt x (by simp [hx]); simpa using this), rfl, hb.frame _, fun h => by cases h⟩
  exact trodAll_mk1 (shut_bool und4 _)

theorem rowProjectSpace (hs : ∀ (b0 : Bool) (s0 : List Int) (n1 : Int), SpecP Try.prog 3 [.ints b0 s0, .int n1] [] fun r ro => r = .bool true ∧ ro = []) : Rows.ProjectSpaceSaid :=
  OpenClaim.holds_of_wide 3 Try.f3 rfl rfl rfl rfl rfl rfl rfl ⟨rfl, rfl, rfl, rfl, rfl⟩ rfl rfl rfl rfl rfl (by kernel_rfl) Try.func3 (by kernel_rfl)
    (of_decide_eq_true (by kernel_rfl)) (by unfold Func.isWrapper; first | (rw [if_pos (by decide +kernel)]; kernel_rfl) | (rw [if_neg (by decide +kernel)]; exact ⟨rfl, rfl⟩))
    (fun os started H enc _ => liftedProjectSpace hs os started H enc)
end Go.Fw

namespace Go.Proofs.Ytkelfldopopgcaa

theorem projectSpace_holds : Rows.ProjectSpaceSaid := Go.Fw.rowProjectSpace fun b0 s0 n1 => Go.Fw.f3_spec b0 s0 n1 []

end Go.Proofs.Ytkelfldopopgcaa

/- The law ProjectMore answers true at every input, and leaves its arguments as they were: no condition. -/
import Derived.Test.YtkelfldopopgcaaGreatZL
import Derived.Carry
namespace Go.Fw
open Go Go.Proofs Go.ChangeShapes Go.WideShapes Go.ChangeAt Go.RowKit Go.Proofs.YtkelfldopopgcaaGreat

set_option maxRecDepth 100000 in
theorem liftedProjectMore (hs : ∀ (t0 : Task) (b1 : Bool) (s1 : List Int) (b2 : Bool) (s2 : List Int) (b3 : Bool) (s3 : List Int), SpecP Tryz.prog 4 [.task t0, .ints b1 s1, .ints b2 s2, .ints b3 s3] [] fun r ro => r = .bool true ∧ ro = []) (os : Os) (started : os.Started) (H : Type) (enc : TypeId × Value → H) :
    ReturnsInHanded {} Tryz.checked os 4 .any (Rows.projectMoreSpec.pre6 enc Tryz.prog Tryz.f4 Rows.projectMoreRow.domain false) (Rows.projectMoreSpec.post enc Tryz.prog Tryz.f4 false true false false) := by
  refine returnsInHanded_of_change (C := Tryz.checked) own started (by kernel_rfl) Tryz.func4
    (ChangeSpec.witness6 (enc := enc) (C := Tryz.checked) false ⟨#[], #[.agg #[.slice none 0 0, .slice none 0 0, .slice none 0 0, .slice none 0 0], .slice none 0 0, .slice none 0 0, .slice none 0 0], []⟩ 8 (by kernel_rfl) (by kernel_rfl) (by kernel_rfl) (by kernel_rfl)) ?_
  intro W base args ds gs before hval0 hW _ _
  have hval : ∀ (j : Nat) t v, Tryz.f4.params[j]? = some t → args[j]? = some v → Value.okWide Tryz.prog W .any base t v := hval0
  have hW' := hW
  obtain ⟨p, q, hA0, hV, rfl, _, _⟩ := hW
  have hA : DataW.TrodAll enc Tryz.prog W 0 (fun _ => true) true Tryz.f4.params.toList args.toList ds p := hA0
  rw [Tryz.params4] at hA hval
  obtain ⟨v0, v1, v2, v3, d0, d1, d2, d3, p0, p1, p2, p3, rfl, rfl, rfl, h0, h1, h2, h3⟩ := trodAll_four hA
  obtain ⟨rfl, rfl⟩ := trodVars_none hV
  clear hA0 hval0
  simp only [List.append_nil] at hW'
  have k0 := h0
  obtain ⟨_, q0⟩ := h0
  have k1 := h1
  obtain ⟨_, q1⟩ := h1
  have k2 := h2
  obtain ⟨_, q2⟩ := h2
  have k3 := h3
  obtain ⟨_, q3⟩ := h3
  obtain ⟨t0, r0⟩ := rd_task q0
  obtain ⟨fs0, u0⟩ := und27
  obtain ⟨cs0, w0, _⟩ := okWide_struct u0 (hval 0 27 v0 rfl rfl)
  have g0 := vl_task r0 ⟨cs0, w0⟩
  obtain ⟨b1, s1, r1⟩ := rd_ints q1
  have g1 := vl_ints r1 (okWide_slice und23 (hval 1 23 v1 rfl rfl))
  obtain ⟨b2, s2, r2⟩ := rd_ints q2
  have g2 := vl_ints r2 (okWide_slice und23 (hval 2 23 v2 rfl rfl))
  obtain ⟨b3, s3, r3⟩ := rd_ints q3
  have g3 := vl_ints r3 (okWide_slice und23 (hval 3 23 v3 rfl rfl))
  refine ((hs t0 b1 s1 b2 s2 b3 s3).calls noKeys (oldB W) W [v0, v1, v2, v3] (start_wr W) ⟨rfl, fun i x v hx hv => ?_⟩).mono ?_
  · match i with
    | 0 => simp at hx hv; subst hx; subst hv; exact g0
    | 1 => simp at hx hv; subst hx; subst hv; exact g1
    | 2 => simp at hx hv; subst hx; subst hv; exact g2
    | 3 => simp at hx hv; subst hx; subst hv; exact g3
    | i + 4 => simp at hx
  rintro e W' ⟨v, r, ro, out', β', RO', rfl, ⟨rfl, rfl⟩, hw, hr⟩
  have hv := vl_true hr
  subst hv
  have hb := wr_below hw
  refine ⟨_, rfl, _, _, _, [], _, [], hW', ?_, trodAll_mk4 (Below.trod laidOut (by kernel_rfl) (of_decide_eq_true (by kernel_rfl)) k0 hb fun x hx => by have := hW'.lt x (by simp [hx]); simpa using this) (Below.trod laidOut (by kernel_rfl) (of_decide_eq_true (by kernel_rfl)) k1 hb fun x hx => by have := hW'.lt x (by simp [hx]); simpa using this) (Below.trod laidOut (by kernel_rfl) (of_decide_eq_true (by kernel_rfl)) k2 hb fun x hx => by have := hW'.lt x (by simp [hx]); simpa using this) (Below.trod laidOut (by kernel_rfl) (of_decide_eq_true (by kernel_rfl)) k3 hb fun x hx => by have := hW'.lt x (by simp [hx]); simpa using this), rfl, hb.frame _, fun h => by cases h⟩
  exact trodAll_mk1 (shut_bool und4 _)

theorem rowProjectMore (hs : ∀ (t0 : Task) (b1 : Bool) (s1 : List Int) (b2 : Bool) (s2 : List Int) (b3 : Bool) (s3 : List Int), SpecP Tryz.prog 4 [.task t0, .ints b1 s1, .ints b2 s2, .ints b3 s3] [] fun r ro => r = .bool true ∧ ro = []) : Rows.ProjectMoreSaid :=
  OpenClaim.holds_of_wide 4 Tryz.f4 rfl rfl rfl rfl rfl rfl rfl ⟨rfl, rfl, rfl, rfl, rfl⟩ rfl rfl rfl rfl rfl (by kernel_rfl) Tryz.func4 (by kernel_rfl)
    (of_decide_eq_true (by kernel_rfl)) (by unfold Func.isWrapper; first | (rw [if_pos (by decide +kernel)]; kernel_rfl) | (rw [if_neg (by decide +kernel)]; exact ⟨rfl, rfl⟩))
    (fun os started H enc _ => liftedProjectMore hs os started H enc)
end Go.Fw

namespace Go.Proofs.YtkelfldopopgcaaGreat

theorem projectMore_holds : Rows.ProjectMoreSaid := Go.Fw.rowProjectMore fun t0 b1 s1 b2 s2 b3 s3 => Go.Fw.f4_spec t0 b1 b2 b3 s1 s2 s3 []

end Go.Proofs.YtkelfldopopgcaaGreat

/- The law PotentChecks answers true at every input, and leaves its arguments as they were: no condition. -/
import Derived.Test.YtmcbncmklopoaaaZQ
namespace Go.Fw
open Go Go.Proofs Go.ChangeShapes Go.WideShapes Go.ChangeAt Go.RowKit Go.Proofs.Ytmcbncmklopoaaa

set_option maxRecDepth 100000 in
theorem liftedPotentChecks (hs : ∀ (t0 : Task) (b1 : Bool) (s1 : List Int) (b2 : Bool) (d2 c2 : Int) (m2 : Bool) (s2 : List Int) (u2 : Int) (n2 : Bool) (x2 : List Int), SpecP Try.prog 4 [.task t0, .ints b1 s1, .verd b2 d2 c2 m2 s2 u2 n2 x2] [] fun r ro => r = .bool true ∧ ro = []) (os : Os) (started : os.Started) (H : Type) (enc : TypeId × Value → H) :
    ReturnsInHanded {} Try.checked os 4 .any (Rows.potentChecksSpec.pre6 enc Try.prog Try.f4 Rows.potentChecksRow.domain false) (Rows.potentChecksSpec.post enc Try.prog Try.f4 false true false false) := by
  refine returnsInHanded_of_change (C := Try.checked) own started (by kernel_rfl) Try.func4
    (ChangeSpec.witness6 (enc := enc) (C := Try.checked) false ⟨#[], #[.agg #[.slice none 0 0, .slice none 0 0, .slice none 0 0, .slice none 0 0], .slice none 0 0, .agg #[.bool false, .int .i64 0, .int .i64 0, .slice none 0 0, .int .i64 0, .slice none 0 0]], []⟩ 8 (by kernel_rfl) (by kernel_rfl) (by kernel_rfl) (by kernel_rfl)) ?_
  intro W base args ds gs before hval0 hW _ _
  have hval : ∀ (j : Nat) t v, Try.f4.params[j]? = some t → args[j]? = some v → Value.okWide Try.prog W .any base t v := hval0
  have hW' := hW
  obtain ⟨p, q, hA0, hV, rfl, _, _⟩ := hW
  have hA : DataW.TrodAll enc Try.prog W 0 (fun _ => true) true Try.f4.params.toList args.toList ds p := hA0
  rw [Try.params4] at hA hval
  obtain ⟨v0, v1, v2, d0, d1, d2, p0, p1, p2, rfl, rfl, rfl, h0, h1, h2⟩ := trodAll_three hA
  obtain ⟨rfl, rfl⟩ := trodVars_none hV
  clear hA0 hval0
  simp only [List.append_nil] at hW'
  have k0 := h0
  obtain ⟨_, q0⟩ := h0
  have k1 := h1
  obtain ⟨_, q1⟩ := h1
  have k2 := h2
  obtain ⟨_, q2⟩ := h2
  obtain ⟨t0, r0⟩ := rd_task q0
  obtain ⟨fs0, u0⟩ := und27
  obtain ⟨cs0, w0, _⟩ := okWide_struct u0 (hval 0 27 v0 rfl rfl)
  have g0 := vl_task r0 ⟨cs0, w0⟩
  obtain ⟨b1, s1, r1⟩ := rd_ints q1
  have g1 := vl_ints r1 (okWide_slice und23 (hval 1 23 v1 rfl rfl))
  obtain ⟨b2, d2, c2, m2, s2, u2, n2, x2, r2⟩ := rd_verd q2
  obtain ⟨fs2, uu2⟩ := und35
  obtain ⟨cs2, w2, _⟩ := okWide_struct uu2 (hval 2 35 v2 rfl rfl)
  have g2 := vl_verd r2 ⟨cs2, w2⟩
  refine ((hs t0 b1 s1 b2 d2 c2 m2 s2 u2 n2 x2).calls noKeys (oldB W) W [v0, v1, v2] (start_wr W) ⟨rfl, fun i x v hx hv => ?_⟩).mono ?_
  · match i with
    | 0 => simp at hx hv; subst hx; subst hv; exact g0
    | 1 => simp at hx hv; subst hx; subst hv; exact g1
    | 2 => simp at hx hv; subst hx; subst hv; exact g2
    | i + 3 => simp at hx
  rintro e W' ⟨v, r, ro, out', β', RO', rfl, ⟨rfl, rfl⟩, hw, hr⟩
  have hv := vl_true hr
  subst hv
  have hb := wr_below hw
  refine ⟨_, rfl, _, _, _, [], _, [], hW', ?_, trodAll_mk3 (Below.trod laidOut (by kernel_rfl) (of_decide_eq_true (by kernel_rfl)) k0 hb fun x hx => by have := hW'.lt x (by simp [hx]); simpa using this) (Below.trod laidOut (by kernel_rfl) (of_decide_eq_true (by kernel_rfl)) k1 hb fun x hx => by have := hW'.lt x (by simp [hx]); simpa using this) (Below.trod laidOut (by kernel_rfl) (of_decide_eq_true (by kernel_rfl)) k2 hb fun x hx => by have := hW'.lt x (by simp [hx]); simpa using this), rfl, hb.frame _, fun h => by cases h⟩
  exact trodAll_mk1 (shut_bool und4 _)

theorem rowPotentChecks (hs : ∀ (t0 : Task) (b1 : Bool) (s1 : List Int) (b2 : Bool) (d2 c2 : Int) (m2 : Bool) (s2 : List Int) (u2 : Int) (n2 : Bool) (x2 : List Int), SpecP Try.prog 4 [.task t0, .ints b1 s1, .verd b2 d2 c2 m2 s2 u2 n2 x2] [] fun r ro => r = .bool true ∧ ro = []) : Rows.PotentChecksSaid :=
  OpenClaim.holds_of_wide 4 Try.f4 rfl rfl rfl rfl rfl rfl rfl ⟨rfl, rfl, rfl, rfl, rfl⟩ rfl rfl rfl rfl rfl (by kernel_rfl) Try.func4 (by kernel_rfl)
    (of_decide_eq_true (by kernel_rfl)) (by unfold Func.isWrapper; first | (rw [if_pos (by decide +kernel)]; kernel_rfl) | (rw [if_neg (by decide +kernel)]; exact ⟨rfl, rfl⟩))
    (fun os started H enc _ => liftedPotentChecks hs os started H enc)
end Go.Fw

namespace Go.Proofs.Ytmcbncmklopoaaa

theorem potentChecks_holds : Rows.PotentChecksSaid := Go.Fw.rowPotentChecks fun t0 b1 s1 b2 d2 c2 m2 s2 u2 n2 x2 => Go.Fw.f4_spec t0 b1 s1 b2 d2 c2 m2 s2 u2 n2 x2 []

end Go.Proofs.Ytmcbncmklopoaaa

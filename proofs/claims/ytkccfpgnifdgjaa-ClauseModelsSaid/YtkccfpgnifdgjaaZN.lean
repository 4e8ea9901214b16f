/- Texts that lead to the law, part 14. -/
import Derived.Test.YtkccfpgnifdgjaaZM

/- The example of the chapter comes out right. -/
namespace Go.Fw
open Go Go.Proofs
set_option maxRecDepth 100000

theorem get_nil_out {cur : Fr} {out : List Fr} : ∀ {k : K} {o : Ob}, St.get ⟨[], cur⟩ k = some o → St.get ⟨out, cur⟩ k = some o
  | .cur _, _, h => h
  | .fr _ _, _, h => by simp [St.get] at h
  | .sub k i, o, h => by
    obtain ⟨eo, e, sz, rs, es, hg, hi, rfl⟩ := St.get_sub h
    have := get_nil_out (out := out) hg
    simp only [St.get, this, hi]
theorem SpecP.any {P : Program} {f : Nat} {args : List LV} {Post : LV → Fr → Prop} (h : SpecP P f args [] Post) (out : List Fr) : SpecP P f args out Post :=
  ⟨h.1, fun β RO w vals hw hv => h.2 β RO w vals (hw.less fun _ _ hk => get_nil_out hk) hv⟩
/-- An oracle by a table: closed calls and what they answer. -/
noncomputable def fndO : List (Nat × (List LV × LV)) → OrcE
  | [], _, _ => none
  | (g, (bs, r)) :: t, f, args => match Nat.beq f g && xEqb.xsEqb args bs with
    | true => some (r, [])
    | false => fndO t f args
theorem fndO_ok {P : Program} : ∀ {l : List (Nat × (List LV × LV))}, (∀ p ∈ l, ∀ out, SpecP P p.1 p.2.1 out fun r1 ro1 => r1 = p.2.2 ∧ ro1 = []) → OrcOK P (fndO l)
  | [], _ => fun _ _ _ _ h => by cases h
  | (g, (bs, r)) :: t, hl => fun f args r1 ro1 h hn out => by
    unfold fndO at h
    split at h
    · rename_i hb
      rw [Bool.and_eq_true] at hb
      have h1 := Nat.eq_of_beq_eq_true hb.1
      have h2 := xsEqb_eq hb.2
      subst h1; subst h2
      cases h
      exact hl _ (List.mem_cons_self ..) out
    · exact fndO_ok (fun p hp => hl p (List.mem_cons_of_mem _ hp)) f args r1 ro1 h hn out

def sHere : ByteArray := ⟨#[104, 101, 114, 101]⟩
def sThere : ByteArray := ⟨#[116, 104, 101, 114, 101]⟩
def sGo : ByteArray := ⟨#[103, 111]⟩
def exAct : Actn := ⟨sGo, 2, false, [⟨0, false⟩], false, [⟨true, [], ⟨0, true⟩⟩, ⟨true, [], ⟨1, false⟩⟩]⟩
def exTask : Task := ⟨false, [sHere, sThere], false, [0], false, [⟨1, false⟩], false, [exAct]⟩
/-- The action, as the program builds it. -/
def exActT : List T := [.v (.string sGo), .v (.int .i64 2), .sl false 2 [tLit ⟨0, false⟩], .sl false 3 [[.sl true 0 [], .v (.int .i64 0), .v (.bool true)], [.sl true 0 [], .v (.int .i64 1), .v (.bool false)]]]
theorem f32_spec (out : List Fr) : SpecP Try.prog 32 [] out fun r ro => r = .task exTask ∧ ro = [] := by
  refine SpecP.close (Post := fun r ro => r = .agg [.osl (.cur 80) 1 0 2, .osl (.cur 88) 1 0 1, .osl (.cur 104) 2 0 1, .osl (.cur 120) 4 0 1] ∧
    ro = [(80, .row 9 1 [tS sHere, tS sThere]), (88, .row 3 1 [tI 0]), (104, .row 85 2 [tLit ⟨1, false⟩]), (120, .row 83 4 [exActT])]) ?_ ?_
  · refine spec_body cx_ok [] [] (fn := Try.f32) (by kernel_rfl) rfl (by kernel_rfl) rfl (by unfold FnOK; kernel_rfl) fun hok => ?_
    refine And.intro (Nat.le_of_ble_eq_true rfl) (And.intro (Nat.le_of_ble_eq_true rfl) ?_)
    exact Exists.intro [80, 88, 104, 120] (And.intro rfl rfl)
  · rintro r ro ⟨rfl, rfl⟩
    refine ⟨.task exTask, .agg _ [.t (.sl false 1 [tS sHere, tS sThere]), .t (.sl false 1 [tI 0]), .t (.sl false 2 [tLit ⟨1, false⟩]), .t (.sl false 4 [tAct exAct])] rfl fun i x y hx hy => ?_, rfl, rfl⟩
    match i with
    | 0 => simp at hx hy; subst hx hy; exact .row 80 9 1 0 2 [tS sHere, tS sThere] rfl (Nat.le_refl 2)
    | 1 => simp at hx hy; subst hx hy; exact .row 88 3 1 0 1 [tI 0] rfl (Nat.le_refl 1)
    | 2 => simp at hx hy; subst hx hy; exact .row 104 85 2 0 1 [tLit ⟨1, false⟩] rfl (Nat.le_refl 1)
    | 3 => simp at hx hy; subst hx hy; exact .trans _ _ _ (.row 120 83 4 0 1 [exActT] rfl (Nat.le_refl 1)) (.un _ _ rfl)
    | i + 4 => simp at hx

theorem ex_is : isB exTask = true := by decide
theorem ex_valid : Valid exTask [0] [0] := by
  refine ⟨by decide, fun i hi => ?_, by decide⟩
  have : i = 0 := by simpa using hi
  subst this
  decide
noncomputable def awL : List (Nat × (List LV × LV)) := [(45, ([.task exTask, .int 1], .int 0)), (32, ([], .task exTask)), (39, ([.task exTask], .bool true)), (40, ([.task exTask, .ints false [0]], .bool true)),
  (41, ([.task exTask, .ints false [0], .ints false [0]], .tup [.int 2, .bool true])), (61, ([.ints false [0], .lits true []], .bool true)), (63, ([.ints false [0], .act exAct], .ints false [1]))]
theorem awL_ok : OrcOK Try.prog (fndO awL) := by
  refine fndO_ok fun p hp out => ?_
  simp only [awL, List.mem_cons, List.not_mem_nil, or_false] at hp
  have TK := task_ok ex_is
  rcases hp with rfl | rfl | rfl | rfl | rfl | rfl | rfl
  · exact f45_spec exTask 1 out
  · exact f32_spec out
  · exact SpecP.mono (f39_spec exTask out) fun _ _ h => by rw [h.1, ex_is]; exact ⟨rfl, h.2⟩
  · exact f40_spec exTask false [0] out
  · refine SpecP.mono (f41_spec exTask false false [0] [0] TK (by decide) (by decide) out) fun _ _ h => ?_
    obtain ⟨hc, rfl⟩ := h
    cases hc with
    | no h => exact absurd ex_valid h
    | yes h => exact ⟨rfl, rfl⟩
  · exact SpecP.mono (f61_spec false true [0] [] 2 (by decide) (by omega) out) fun _ _ h => h
  · refine SpecP.mono (f63i_spec false [0] exAct 2 (by decide) (by omega) (TK.lit exAct (List.mem_cons_self ..)) (by decide) out) fun _ _ h => ?_
    obtain ⟨rfl, rfl⟩ := h
    exact ⟨rfl, rfl⟩
noncomputable def aw : Option (LV × Fr) := isoE cxm (evN cxm noX (fndO awL) runT [57, 85, 87, 88, 89, 36, 70, 71, 72, 33, 11, 35] 1000 200) (Try.f8, (Try.f8.body.get!, (runTKp8, runTOd8))) [] []
theorem aw_ok : aw = some (.t (.v (.bool true)), []) := by kernel_rfl
theorem f8_spec (out : List Fr) : SpecP Try.prog 8 [] out fun r ro => r = .bool true ∧ ro = [] :=
  SpecP.any (spec_run cxm_ok noX_ok awL_ok runT_ok (M := [57, 85, 87, 88, 89, 36, 70, 71, 72, 33, 11, 35]) (m := 1000) (n := 200) (f := 8) (x := (Try.f8, (Try.f8.body.get!, (runTKp8, runTOd8)))) rfl aw_ok) out
end Go.Fw

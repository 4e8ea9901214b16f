/- Texts that lead to the law, part 14. -/
import Derived.Test.YtmcbncmklopoaaaZM
import Derived.Recover

/- Best comes back on the example, and leaves what it ran. -/
namespace Go.Fw
open Go Go.Proofs
set_option maxRecDepth 100000

theorem get_nil_out {cur : Fr} {out : List Fr} : ∀ {k : K} {o : Ob}, St.get ⟨[], cur⟩ k = some o → St.get ⟨out, cur⟩ k = some o
  | .cur _, _, h => h
  | .fr _ _, _, h => by simp [St.get] at h
  | .sub k i, o, h => by
    obtain ⟨eo, e, sz, rs, es, hg, hi, rfl⟩ := St.get_sub h
    have := get_nil_out (out := out) hg
    simp only [St.get, this, hi]
theorem SpecP.any {P : Program} {f : Nat} {args : List LV} {Post : LV → Fr → Prop} (h : SpecP P f args [] Post) (out : List Fr) : SpecP P f args out Post :=
  ⟨h.1, fun β RO w vals hw hv => h.2 β RO w vals (hw.less fun _ _ hk => get_nil_out hk) hv⟩
theorem preE_code {rec : EvT} {N : Nat} {kp : Kp} {od : Od} {c' : Code} {env' : Env} {st' : St} {k' : Nat} : ∀ {n : Nat} {c : Code} {env : Env} {st : St} {k : Nat}, preE rec N kp od n c env st k = some (c', env', st', k') → c' = tailC n c
  | 0, c, env, st, k, h => by cases h; rfl
  | n + 1, c, env, st, k, h => by
    simp only [preE] at h
    split at h
    · obtain ⟨_, h⟩ := okIf_some h
      split at h
      · show c' = tailC n _
        exact preE_code h
      · cases h
    · cases h

noncomputable def ops10 : Array Oper := match rg (tailC 3 b10) with
  | .region _ ops _ => ops
  | _ => #[]
noncomputable def op10a : Oper := ops10[0]!
noncomputable def op10b : Oper := ops10[1]!
theorem code10 : tailC 3 b10 = .seq (.region 10 ops10 false) (.seq (rg (tailC 4 b10)) .ret) := by kernel_rfl
theorem ops10_0 : ops10[0]? = some op10a := by kernel_rfl
theorem ops10_1 : ops10[1]? = some op10b := by kernel_rfl
theorem op10a_op : op10a.op = .makeFunc (.func 39) #[] #[.tmp 4, .tmp 5] := by kernel_rfl
theorem op10a_dst : op10a.dst = some 43 := by kernel_rfl
theorem op10a_g : op10a.guard = none := by kernel_rfl
theorem op10b_g : op10b.guard = none := by kernel_rfl
theorem op10b_dst : op10b.dst = none := by kernel_rfl
noncomputable def call10 : Call := match op10b.op with
  | .defer c => c
  | _ => default
theorem op10b_op : op10b.op = .defer call10 := by kernel_rfl
theorem call10_callee : call10.callee = .value (.tmp 43) := by kernel_rfl
theorem call10_args : call10.args = #[] := by kernel_rfl
theorem pev10 : pev cxr E10 ⟨[], C10⟩ op10a.op = some (.fn 39 [(.cur 2, 0), (.cur 4, 0)]) := by kernel_rfl

theorem defer10 {a : Act} {w : World} {p q : Value} (h : a.eval (.tmp 43) = .func (.func 39) #[] #[p, q]) : (execOp a.eval op10b).run Try.prog w = .ok (.defer { target := .fn (.func 39) #[p, q], args := #[] }) w := by
  simp only [execOp, op10b_op, resolve, call10_callee, call10_args, h, Deferred.ofValue, Sem.run_bind, Sem.run_pure, Result.andThen_ok]
  simp
theorem invoke10 {w : World} {p q : Value} : (invoke (.fn (.func 39) #[p, q]) #[]).run Try.prog w = .ok (.enter 39 #[p, q]) w := by
  have hf : Try.prog.funcs[39]? = some Try.f39 := by kernel_rfl
  have hn : (Try.f39.name == "runtime.NumGoroutine") = false := by kernel_rfl
  have hb : Try.f39.body.isNone = false := by kernel_rfl
  simp only [invoke, callFunc, Sem.run_bind, run_program, Result.andThen_ok, hf, hn, hb, Bool.false_eq_true, if_false]
  simp

/-! ### What is deferred finds no panic -/
noncomputable def b39 : Code := Try.f39.body.get!
noncomputable def r390 : Array Oper := match rg b39 with
  | .region _ ops _ => ops
  | _ => #[]
noncomputable def r391 : Array Oper := match rg (tailC 1 b39) with
  | .region _ ops _ => ops
  | _ => #[]
noncomputable def o390 : Oper := r390[0]!
noncomputable def o391 : Oper := r390[1]!
noncomputable def o392 : Oper := r391[0]!
noncomputable def o393 : Oper := r391[1]!
noncomputable def c39 : Code := match tailC 2 b39 with
  | .cond _ a _ => a
  | c => c
theorem code39 : b39 = .seq (.region 0 r390 false) (.seq (.region 1 r391 false) (.cond (.tmp 7) c39 .skip)) := by kernel_rfl
theorem run390 (a : Act) (w : World) : (execOp a.eval o390).run Try.prog w = .ok .recover w := by
  have h : o390.op = .call { callee := .builtin .recover, args := #[], argTypes := #[] } := by kernel_rfl
  simp only [execOp, h]
  rfl
theorem run391 (a : Act) (w : World) : (execOp a.eval o391).run Try.prog w = .ok (.value (a.eval (.tmp 5))) w := by
  have h : o391.op = .assign (.tmp 5) := by kernel_rfl
  simp only [execOp, h]
  rfl
theorem run392 (a : Act) (w : World) : (execOp a.eval o392).run Try.prog w = .ok (.value (a.eval (.tmp 2))) w := by
  have h : o392.op = .move (.tmp 2) := by kernel_rfl
  simp only [execOp, h]
  rfl
theorem run393 {a : Act} {w : World} (ha : a.eval (.tmp 6) = .nilIface) : (execOp a.eval o393).run Try.prog w = .ok (.value (.bool false)) w := by
  have h : o393.op = .binOp .neq 20 (.tmp 6) (.const .nilIface) 20 := by kernel_rfl
  simp only [execOp, h, ha]
  rfl
end Go.Fw

/- Best on the example: its contract. -/
namespace Go.Fw
open Go Go.Proofs
set_option maxRecDepth 100000

theorem wanted_none {o : Oper} {y : Nat → Option Bool} (h : o.guard = none) : Region.wanted o y = true := by unfold Region.wanted; rw [h]
theorem callsD39 (p q : Value) (w : World) : CallsD Try.prog 39 #[p, q] .returning w fun e u' w' => (∃ v, e = .returned v) ∧ u' = .returning ∧ w' = w := by
  refine callsD_of_wpS (fn := Try.f39) (c := b39) (by kernel_rfl) (by kernel_rfl) fun c₀ cs hu => ?_
  have hr0 : List.range r390.size = [0, 1] := by kernel_rfl
  have hr1 : List.range r391.size = [0, 1] := by kernel_rfl
  have h0 : r390[0]? = some o390 := by kernel_rfl
  have h1 : r390[1]? = some o391 := by kernel_rfl
  have h2 : r391[0]? = some o392 := by kernel_rfl
  have h3 : r391[1]? = some o393 := by kernel_rfl
  have g0 : o390.guard = none := by kernel_rfl
  have g1 : o391.guard = none := by kernel_rfl
  have g2 : o392.guard = none := by kernel_rfl
  have g3 : o393.guard = none := by kernel_rfl
  have d0 : o390.dst = some 5 := by kernel_rfl
  have d1 : o391.dst = some 2 := by kernel_rfl
  have d2 : o392.dst = some 6 := by kernel_rfl
  have d3 : o393.dst = some 7 := by kernel_rfl
  have hrec : recoverD (c₀ :: cs) = none := by simp only [recoverD, hu]
  have hnt : Try.f39.ntmps = 17 := by kernel_rfl
  generalize ha : ({ tmps := #[p, q] ++ Array.replicate (Try.f39.ntmps - (#[p, q] : Array Value).size) undef, defers := [] } : Act) = a0
  have hsz : a0.tmps.size = 17 := by rw [← ha, hnt]; simp
  have hdf : a0.defers = [] := by rw [← ha]
  clear ha
  rw [code39]
  refine wpS_seq (wpS_region ?_)
  rw [hr0]
  simp only [wpOpsS, h0, h1, wanted_none g0, wanted_none g1, if_true, run390, hrec, run391, Oper.upon, d0, d1]
  obtain ⟨a1, ha1⟩ : ∃ a1, a1 = (a0.put (some 5) .nilIface).put (some 2) ((a0.put (some 5) .nilIface).eval (.tmp 5)) := ⟨_, rfl⟩
  have e1 : a1.eval (.tmp 2) = .nilIface := by
    rw [ha1]; simp [Act.put, Act.eval, hsz]
  have s1 : a1.tmps.size = 17 := by rw [ha1]; simp [Act.put, hsz]
  have f1 : a1.defers = [] := by rw [ha1]; simp [Act.put, hdf]
  rw [← ha1]
  clear ha1
  refine wpS_seq (wpS_region ?_)
  rw [hr1]
  have e2 : (a1.put (some 6) (a1.eval (.tmp 2))).eval (.tmp 6) = .nilIface := by rw [e1]; simp [Act.put, Act.eval, s1]
  simp only [wpOpsS, h2, h3, wanted_none g2, wanted_none g3, if_true, run392, Oper.upon, d2, d3, run393 e2]
  refine wpS_cond (t := false) ?_ ?_
  · simp [Act.put, Act.eval, s1]
  · refine wpS_of_wp (wp_skip ?_)
    refine ⟨?_, .returning, ?_, ?_⟩
    · simp [Act.put, f1]
    · rw [← hu]
    · refine ⟨.tuple #[], ?_, ⟨_, rfl⟩, rfl, rfl⟩
      simp [results]
end Go.Fw

/- Best on the example: its contract. -/
namespace Go.Fw
open Go Go.Proofs
set_option maxRecDepth 100000

theorem runR_ok : EvOK Try.prog runR := evN_ok cxr_ok runX_ok runO_ok runT_ok 200
theorem f10_nil : SpecP Try.prog 10 [exT, exS] [] fun r ro => r = R10 ∧ ro = O10 := by
  refine ⟨by unfold FnOK; kernel_rfl, fun β RO w vals hw hv => ?_⟩
  have hlen : vals.length = 2 := hv.1.symm
  have hnt : Try.f10.ntmps = 48 := by kernel_rfl
  refine calls_of_wp_defers (fn := Try.f10) (c := b10) (by kernel_rfl) (by kernel_rfl) ?_
  have hs : SR (entP β RO w) 48 β RO (argE 0 [exT, exS]) ⟨[], []⟩ { tmps := vals.toArray ++ Array.replicate (Try.f10.ntmps - vals.toArray.size) undef, defers := [] } w := by
    refine ⟨hw, ⟨by rw [hnt]; simp; omega, by decide⟩, rfl, fun n y hy => ?_⟩
    obtain ⟨_, h2⟩ := argE_look hy
    simp only [Nat.sub_zero] at h2
    have hlt : n < vals.length := by rw [hlen]; exact (List.getElem?_eq_some_iff.1 h2).1
    refine ⟨vals[n], ?_, hv.2 n y _ h2 (List.getElem?_eq_getElem hlt)⟩
    rw [tmpAt_lt (by omega), Array.getElem?_append_left (by simpa using hlt)]
    simp [hlt]
  generalize ({ tmps := vals.toArray ++ Array.replicate (Try.f10.ntmps - vals.toArray.size) undef, defers := [] } : Act) = a0 at hs
  -- the first statements
  obtain ⟨c1, env1, st1, k1, h1, hE, hC⟩ := pre10F_inv pre10_ok
  have hc := preE_code h1
  subst hc
  refine preE_wp runR_ok (fun β1 RO1 a1 w1 hs1 => ?_) h1 hs
  have hs2 : SR (entP β RO w) 48 β1 RO1 E10 ⟨[], C10⟩ a1 w1 := by
    refine hs1.less (fun k o hk => ?_) fun n x hx => ?_
    · have := get_nil_out (out := st1.out) hk
      rw [← hC] at this
      exact get_less (fun n x hx => look_gcF hx) k o this
    · rw [← hE] at hx; exact look_keepF hx
  clear hs1 hE hC h1
  rw [code10]
  -- what is deferred
  refine wp_seq (wp_region ?_)
  rw [show List.range ops10.size = [0, 1] by kernel_rfl]
  simp only [wpOps, ops10_0, ops10_1, wanted_none op10a_g, wanted_none op10b_g, if_true]
  refine .inl (anyF_sound.wp_weaken (fun _ _ _ h => h.elim) (pevOK cxr_ok pev10 _ _ _ _ _ _ _ hs2 fun v hv1 => ?_))
  refine .inl ?_
  have hv2 : v = .func (.func 39) #[] #[.pointer (some ⟨β1 (.cur 2), 0, none⟩), .pointer (some ⟨β1 (.cur 4), 0, none⟩)] := by cases hv1; rfl
  have hsz := hs2.size
  have hev : (a1.put op10a.dst v).eval (.tmp 43) = .func (.func 39) #[] #[.pointer (some ⟨β1 (.cur 2), 0, none⟩), .pointer (some ⟨β1 (.cur 4), 0, none⟩)] := by
    rw [op10a_dst, hv2]
    simp [Act.put, Act.eval, hsz.1]
  unfold Oper.wp
  rw [defer10 hev]
  simp only [Oper.upon, op10b_dst, Exit.then]
  generalize hd : ({ target := .fn (.func 39) #[.pointer (some ⟨β1 (.cur 2), 0, none⟩), .pointer (some ⟨β1 (.cur 4), 0, none⟩)], args := #[] } : Deferred) = d
  have hs3 : SR { entP β RO w with dfs := [d] } 48 β1 RO1 E10 ⟨[], C10⟩ (({ a1.put op10a.dst v with defers := d :: (a1.put op10a.dst v).defers } : Act).put none undef) w1 := by
    have h4 : SR (entP β RO w) 48 β1 RO1 (putE E10 op10a.dst (.fn 39 [(.cur 2, 0), (.cur 4, 0)])) ⟨[], C10⟩ (a1.put op10a.dst v) w1 := hs2.put hv1 fun n hn => by rw [op10a_dst] at hn; cases hn; decide
    refine ⟨wr_same h4.wr rfl, h4.size, ?_, fun n x hx => ?_⟩
    · show d :: (a1.put op10a.dst v).defers = [d]
      rw [h4.defers]; rfl
    · obtain ⟨u, g1, g2⟩ := h4.env n x (by
        rw [op10a_dst]
        simp only [putE, look_cons]
        rw [if_neg]
        · exact hx
        · rintro rfl
          rw [show look E10 43 = none by kernel_rfl] at hx
          cases hx)
      exact ⟨u, g1, g2⟩
  generalize (({ a1.put op10a.dst v with defers := d :: (a1.put op10a.dst v).defers } : Act).put none undef) = a3 at hs3 ⊢
  -- the run itself
  obtain ⟨env3, st3, k3, l, h3, hl, hR, hO⟩ := run10F_inv run10_ok
  refine wp_seq (wp_mono ((wpIn_wide (n := 0)).1 (runR_ok _ _ _ _ _ _ _ _ _ _ h3 _ 48 _ _ _ _ (by kernel_rfl) hs3)) ?_)
  rintro e2 a4 w4 ⟨env4, st4, β4, RO4, ⟨he, hE4, hS4⟩, hs4⟩
  subst he; subst hE4; subst hS4
  simp only [Exit.then]
  refine wp_ret ?_
  show Leaves Try.prog Try.f10 a4.tmps _ a4.defers .returning w4
  rw [hs4.defers, ← hd]
  refine leaves_cons (by simp) invoke10 ((callsD39 _ _ w4).mono ?_)
  rintro e5 u5 w5 ⟨⟨v5, rfl⟩, rfl, rfl⟩
  obtain ⟨v6, g1, g2⟩ := res_run cxr_ok hs4 hl
  refine ⟨v6, g1, v6, resV l, O10, st4.out, β4, RO4, rfl, ⟨hR, rfl⟩, ?_, g2⟩
  have hw4 : WR (entP β RO w) β4 RO4 st4 w5 := wr_same hs4.wr rfl
  rw [← hO]
  exact hw4.less fun k o hk => get_less (fun n x hx => look_gcF hx) k o hk
theorem f10_spec (out : List Fr) : SpecP Try.prog 10 [exT, exS] out fun r ro => r = R10 ∧ ro = O10 := f10_nil.any out
end Go.Fw

/- The example of the chapter comes out right. -/
namespace Go.Fw
open Go Go.Proofs
set_option maxRecDepth 100000

noncomputable def awO : OrcE := fun f args => match Nat.beq f 10 with
  | true => okIf (xEqb.xsEqb args [exT, exS]) (some (R10, O10))
  | false => runO f args
theorem awO_ok : OrcOK Try.prog awO := by
  intro f args r ro h hn out
  unfold awO at h
  split at h
  · rename_i hf
    have hf := Nat.eq_of_beq_eq_true hf
    subst hf
    obtain ⟨ha, h⟩ := okIf_some h
    rw [xsEqb_eq ha]
    cases h
    exact f10_spec out
  · exact runO_ok f args r ro h hn out
noncomputable def aw : Option (LV × Fr) := isoE cxr (evN cxr runX awO ((9, (Try.f9, (Try.f9.body.get!, ([], [])))) :: runT) [] 1000 200) (Try.f9, (Try.f9.body.get!, ([], []))) [] []
theorem awT_ok : InOK Try.prog ((9, (Try.f9, (Try.f9.body.get!, ([], [])))) :: runT) := InOK.cons (by kernel_rfl) rfl (by unfold FnOK; kernel_rfl) (by kernel_rfl) runT_ok
theorem aw_ok : aw = some (.t (.v (.bool true)), []) := by kernel_rfl
theorem f9_spec (out : List Fr) : SpecP Try.prog 9 [] out fun r ro => r = .t (.v (.bool true)) ∧ ro = [] :=
  SpecP.any (spec_run cxr_ok runX_ok awO_ok awT_ok (M := []) (m := 1000) (n := 200) (f := 9) (x := (Try.f9, (Try.f9.body.get!, ([], [])))) rfl aw_ok) out
end Go.Fw

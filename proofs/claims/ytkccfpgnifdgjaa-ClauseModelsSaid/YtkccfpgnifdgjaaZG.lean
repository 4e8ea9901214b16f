/- Texts that lead to the law, part 7. -/
import Derived.Test.YtkccfpgnifdgjaaZF
import Derived.LoopNIn

/- The value logic, part 24: a loop over a function is right; functions that hold one. -/
namespace Go.Fw
open Go
set_option maxRecDepth 2000

def nrmQ (Q : Env → St → Prop) (e : Exit) (env : Env) (st : St) : Prop := e = .normal ∧ Q env st

section
variable {C : Ctx} {P : Program} {E : Ent} {N : Nat} {β : K → Nat} {RO : Nat → Prop} {env : Env} {st : St} {a : Act} {w : World} {kp kp5 : Kp} {od od5 : Od} {n : Nat}

theorem shape_loop {w : World} {l : Nat} {r : Loop} (h : w.heap[l]? = some (.loop r)) : w.shape? l = none := by simp [World.shape?, h]
theorem shape_def {w : World} {l : Nat} {r : Option (List Deferred)} (h : w.heap[l]? = some (.deferred r)) : w.shape? l = none := by simp [World.shape?, h]

theorem rangeF_in (hC : C.OK P) {g : Operand} {ps : Array Tmp} {assign body : Code} {Q : Env → St → Prop} (hk : (codeYOK N od assign && (codeYOK N od body && psOK N ps.toList)) = true) (h : SR E N β RO env st a w)
    (hW : rangeFW C P kp5 od5 kp od g ps.toList assign body env st Q) : (Code.rangeFunc g ps assign body).wpIn (wideR none) n P (PostN E N (nrmQ Q)) a w := by
  simp only [Bool.and_eq_true] at hk
  obtain ⟨hkA, hkB, hkP⟩ := hk
  obtain ⟨hpn, hpl⟩ := psOK_spec hkP
  unfold rangeFW at hW
  split at hW
  rotate_left
  · cases hW
  rename_i fi cap hg
  obtain ⟨fn5, c5, hf5, hb5, hr5, hfn, hk5, hW⟩ := hW
  simp only [Bool.and_eq_true] at hk5
  obtain ⟨hk50, hk51, hk52⟩ := hk5
  have hk50 : fn5.ntmps ≤ 1000000 := by simpa using hk50
  have hk51 : cap.length + 1 ≤ fn5.ntmps := by simpa using hk51
  refine wpIn_rangeFunc fun fnid _ => ?_
  have hgv := h.opd g
  rw [hg] at hgv
  obtain ⟨caps, hcaps, hav⟩ : ∃ caps, caps = (cap.map fun p => Value.pointer (some ⟨β p.1, p.2, none⟩)) ∧ a.eval g = .func (.func fi) #[] caps.toArray := by
    generalize a.eval g = v at hgv
    cases hgv; exact ⟨_, rfl, rfl⟩
  obtain ⟨l, hl⟩ : ∃ l, l = w.heap.size + 1 := ⟨_, rfl⟩
  obtain ⟨rc, hrc⟩ : ∃ rc : Loop, rc = { state := .ready, pending := none, fn := fnid, tmps := a.tmps, params := ps, assign, body, defers := w.heap.size } := ⟨_, rfl⟩
  obtain ⟨w1, hw1⟩ : ∃ w1, w1 = (w.alloc (.deferred (some []))).alloc (.loop rc) := ⟨_, rfl⟩
  have hs1 : w1.heap.size = w.heap.size + 2 := by rw [hw1, alloc_size, alloc_size]
  have hb1 : ∀ b, b < w.heap.size → w1.heap[b]? = w.heap[b]? := fun b hb => by
    rw [hw1, alloc_old _ _ _ (by rw [alloc_size]; omega), alloc_old _ _ _ hb]
  have hD1 : w1.heap[w.heap.size]? = some (.deferred (some [])) := by
    rw [hw1, alloc_old _ _ _ (by rw [alloc_size]; omega)]; exact alloc_new _ _
  have hL1 : w1.heap[l]? = some (.loop rc) := by
    rw [hl, hw1, show w.heap.size + 1 = (w.alloc (.deferred (some []))).heap.size by rw [alloc_size]]; exact alloc_new _ _
  have hh1 : SR E N β RO env st a w1 := h.later (by rw [hw1]; exact ⟨rfl, rfl, rfl, by rw [alloc_size, alloc_size]; omega⟩) hb1
  have hun : ∀ {b : Nat}, w.heap.size ≤ b → Unt β RO st b := fun hb => ⟨fun hr => by have := h.wr.roLt _ hr; omega, fun k o hk e => by have := (h.wr.obj k o hk).lt; omega⟩
  have hUl : Unt β RO st l := hun (by omega)
  have hUD : Unt β RO st w.heap.size := hun (Nat.le_refl _)
  obtain ⟨yv, hyv⟩ : ∃ yv, yv = Value.func (.yield l) #[] #[] := ⟨_, rfl⟩
  refine ⟨l, [{ target := .collected w.heap.size, args := #[] }], w1, { target := .fn (.func fi) caps.toArray, args := #[yv] }, w1, fi, #[yv] ++ caps.toArray, w1, ?_, ?_, fun _ _ => trivial, ?_, no_depth, ?_⟩
  · rw [hl, hw1, hrc]; exact run_enterLoop_outer _ _ _ _ _
  · simp only [resolve, hav, hyv, Deferred.ofValue]
    simp [Act.eval]
  · unfold FnOK at hfn
    rw [hf5] at hfn
    simp only [Option.any_some, Bool.and_eq_true, bne_iff_ne, ne_eq] at hfn
    have hname : (fn5.name == "runtime.NumGoroutine") = false := by simpa using hfn.2
    have hbody : fn5.body.isNone = false := by rw [hb5]; rfl
    simp only [invoke, callFunc, run_program, Sem.run_bind, Result.andThen_ok, hf5, hname, hbody, Bool.false_eq_true, if_false, Sem.run_pure]
  · -- the walk of the function
    obtain ⟨E5, hE5⟩ : ∃ E5, E5 = E.nest β RO st w1 (fun m => a.tmps[m - 1000000]?) [] := ⟨_, rfl⟩
    have hwr5 : WR E5 β RO st w1 := by rw [hE5]; exact hh1.wr.nest rfl hh1.wr.obj
    have gh5 : ∀ m, E5.gh m = a.tmps[m - 1000000]? := fun m => by rw [hE5]; rfl
    have hback5 : ∀ {β' RO' st' w'}, WR E5 β' RO' st' w' → WR E β' RO' st' w' := fun hw' => hh1.wr.nest_back (by rw [hE5] at hw'; exact hw')
    have hU5 : ∀ {b β' RO' st' w'}, w.heap.size ≤ b → b < w1.heap.size → WR E5 β' RO' st' w' → Unt β' RO' st' b ∧ w'.heap[b]? = w1.heap[b]? := fun hb hb' hw' => (hun hb).nest hb' (by rw [hE5] at hw'; exact hw')
    have hlen5 : (#[yv] ++ caps.toArray).size = cap.length + 1 := by simp [hcaps]
    have hs5 : SR E5 fn5.ntmps β RO (argE 0 (.t (.v (.func (.yield l) #[] #[])) :: capArgs cap) ++ selE 0 1000000 1000000 env) st { tmps := (#[yv] ++ caps.toArray) ++ Array.replicate (fn5.ntmps - (#[yv] ++ caps.toArray).size) undef, defers := [] } w1 := by
      refine ⟨hwr5, ⟨by rw [Array.size_append, Array.size_replicate, hlen5]; omega, hk50⟩, by rw [hE5]; rfl, fun m x hx => ?_⟩
      rcases look_app hx with hx | ⟨_, hx⟩
      · obtain ⟨_, h2⟩ := argE_look hx
        simp only [Nat.sub_zero] at h2
        have hlt : m < cap.length + 1 := by have := (List.getElem?_eq_some_iff.1 h2).1; simpa [capArgs] using this
        rw [tmpAt_lt (by omega), Array.getElem?_append_left (by rw [hlen5]; exact hlt)]
        cases m with
        | zero =>
          simp only [List.getElem?_cons_zero, Option.some.injEq] at h2
          subst h2
          exact ⟨yv, by simp, by rw [hyv]; exact .t _ _ (.v _ rfl)⟩
        | succ m =>
          simp only [List.getElem?_cons_succ, capArgs, List.getElem?_map] at h2
          cases hc : cap[m]? with
          | none => rw [hc] at h2; cases h2
          | some p =>
            rw [hc] at h2
            cases h2
            refine ⟨.pointer (some ⟨β p.1, p.2, none⟩), ?_, .ptr _ _⟩
            rw [Array.getElem?_append_right (by simp)]
            simp [hcaps, hc]
      · obtain ⟨q, _, g2, g3, g4⟩ := look_selE hx
        obtain ⟨v, g5, g6⟩ := hh1.env q x g4
        rw [tmpAt_lt g2] at g5
        refine ⟨v, ?_, g6⟩
        unfold tmpAt
        rw [show Nat.blt m 1000000 = false by rw [Bool.eq_false_iff]; intro hb; rw [Nat.blt_eq] at hb; omega]
        simp only [gh5]
        rw [show m - 1000000 = q by omega]; exact g5
    have hY : YOK P E5 fn5.ntmps (bodyW C P kp od ps.toList assign body l) := by
      intro l' args vals env1 st1 K' β1 RO1 a1 w2 hs hv hB
      obtain ⟨rfl, hlen, hB⟩ := hB
      obtain ⟨hU1, hr2⟩ := hU5 (b := l') (by omega) (by omega) hs.wr
      rw [hL1] at hr2
      have hlv : vals.length = ps.size := by rw [← hv.1, hlen]; simp
      have hy := run_yield (P := P) (args := vals.toArray) hr2 (by rw [hrc]; simpa using hlv)
      refine ⟨_, _, _, _, hy, roundIn_of_wpIn trivial ?_⟩
      rw [hrc]
      simp only
      obtain ⟨gh6, hgh6⟩ : ∃ gh6 : Nat → Option Value, gh6 = fun m => if 2000000 ≤ m then a1.tmps[m - 2000000]? else a.tmps[m - 1000000]? := ⟨_, rfl⟩
      obtain ⟨tR, htR⟩ : ∃ tR, tR = Array.foldl (fun tmps x => tmps.setIfInBounds x.fst x.snd) a.tmps (ps.zip vals.toArray) := ⟨_, rfl⟩
      have hzip : (ps.zip vals.toArray).toList = ps.toList.zip vals := by simp
      have hmapz : (ps.toList.zip vals).map (·.1) = ps.toList := by rw [List.map_fst_zip]; simp [hlv]
      obtain ⟨f1, f2, f3⟩ := foldl_put (ps.toList.zip vals) a.tmps (by rw [hmapz]; exact hpn) fun p hp => by
        have : p.1 ∈ ps.toList := by rw [← hmapz]; exact List.mem_map_of_mem hp
        rw [h.size.1]; exact hpl _ this
      have htR' : tR = (ps.toList.zip vals).foldl (fun t p => t.setIfInBounds p.1 p.2) a.tmps := by rw [htR, ← Array.foldl_toList, hzip]
      rw [← htR'] at f1 f2 f3
      rw [← htR]
      have tmpG : ∀ {w0 : World} {β0 : K → Nat} {RO0 : Nat → Prop} {st0 : St} {a0 : Act} {m : Nat}, 1000000 ≤ m → tmpAt (E5.nest β0 RO0 st0 w0 gh6 []) a0 m = gh6 m := fun hm => by
        unfold tmpAt
        rw [show Nat.blt _ 1000000 = false by rw [Bool.eq_false_iff]; intro hb; rw [Nat.blt_eq] at hb; omega]
        rfl
      have tmp5 : ∀ {a0 : Act} {m : Nat}, 1000000 ≤ m → tmpAt E5 a0 m = a.tmps[m - 1000000]? := fun hm => by
        unfold tmpAt
        rw [show Nat.blt _ 1000000 = false by rw [Bool.eq_false_iff]; intro hb; rw [Nat.blt_eq] at hb; omega]
        exact gh5 _
      have hsa : SR (E5.nest β1 RO1 st1 w2 gh6 []) N β1 RO1 (rndE ps.toList args env1) st1 { tmps := tR, defers := [] } w2 := by
        refine ⟨hs.wr.nest rfl hs.wr.obj, ⟨by rw [f1]; exact h.size.1, h.size.2⟩, rfl, fun m x hx => ?_⟩
        have hN := h.size
        unfold rndE at hx
        rcases look_app hx with hx | ⟨hx0, hx⟩
        · obtain ⟨i, g1, g2, _⟩ := look_zipE hx
          have hi : i < vals.length := by rw [← hv.1]; exact (List.getElem?_eq_some_iff.1 g2).1
          have hm : m < N := hpl m (List.mem_of_getElem? g1)
          refine ⟨vals[i], ?_, hv.2 i x _ g2 (List.getElem?_eq_getElem hi)⟩
          rw [tmpAt_lt (by omega)]
          exact f2 i (m, vals[i]) (by rw [List.getElem?_zip_eq_some]; exact ⟨g1, List.getElem?_eq_getElem hi⟩)
        have hm0 := look_zipE_none hlen.symm hx0
        rcases look_app hx with hx | ⟨_, hx⟩
        · obtain ⟨q, g1, g2, g3, g4⟩ := look_selE hx
          obtain ⟨v, g5, g6⟩ := hs.env q x g4
          rw [tmp5 g1] at g5
          refine ⟨v, ?_, g6⟩
          rw [tmpAt_lt (by omega), f3 m (by rw [hmapz]; exact hm0), show m = q - 1000000 by omega]; exact g5
        · rcases look_app hx with hx | ⟨_, hx⟩
          · obtain ⟨q, g1, g2, g3, g4⟩ := look_selE hx
            obtain ⟨v, g5, g6⟩ := hs.env q x g4
            rw [tmp5 g1] at g5
            refine ⟨v, ?_, g6⟩
            rw [tmpG (by omega), hgh6]
            simp only
            rw [if_neg (by omega), show m = q by omega]; exact g5
          · obtain ⟨q, g1, g2, g3, g4⟩ := look_selE hx
            obtain ⟨v, g5, g6⟩ := hs.env q x g4
            rw [tmpAt_lt g2] at g5
            refine ⟨v, ?_, g6⟩
            rw [tmpG (by omega), hgh6]
            simp only
            rw [if_pos (by omega), show m - 2000000 = q by omega]; exact g5
      refine wpIn_mono (wpcY_in (r := some l') hC noY_ok assign hkA β1 RO1 _ st1 _ w2 _ hsa hB) ?_
      rintro e a2 w3 ⟨env2, st2, β2, RO2, hq, hs2⟩
      cases e <;> try exact hq.elim
      have hw3 : WR E5 β2 RO2 st2 w3 := hs.wr.nest_back hs2.wr
      obtain ⟨hU3, hr3⟩ := hU5 (b := l') (by omega) (by omega) hw3
      rw [hL1] at hr3
      refine ⟨_, run_beginRound hr3 (by rw [hrc]), ?_⟩
      obtain ⟨bz, hbz⟩ : ∃ bz : Loop, bz = { rc with state := .busy } := ⟨_, rfl⟩
      rw [← hbz]
      have hlt3 : l' < w3.heap.size := (Array.getElem?_eq_some_iff.1 hr3).1
      have hsb : SR (E5.nest β2 RO2 st2 (w3.putObj l' (.loop bz)) gh6 []) N β2 RO2 env2 st2 a2 (w3.putObj l' (.loop bz)) :=
        ⟨hw3.nest World.putObj_size fun k o hk => (hw3.obj k o hk).unt hU3 (shape_loop hr3) hk, hs2.size, hs2.defers, fun m x hx => by
          obtain ⟨v, g1, g2⟩ := hs2.env m x hx
          exact ⟨v, g1, g2.unt hU3.ro (shape_loop hr3)⟩⟩
      refine wpIn_mono (wpcY_in (r := some l') hC noY_ok body hkB β2 RO2 _ st2 _ _ _ hsb hq) ?_
      rintro e a3 w4 ⟨env3, st3, β3, RO3, hq3, hs3⟩
      cases e <;> try exact hq3.elim
      have hb4 : (w3.putObj l' (.loop bz)).heap[l']? = some (.loop bz) := World.putObj_heap_same hlt3
      obtain ⟨hU4, hr4⟩ := hU3.nest (by rw [World.putObj_size]; exact hlt3) hs3.wr
      rw [hb4] at hr4
      have hend := run_endRound (P := P) none hr4
      have hrec : ({ bz with state := if (none : Option Code).isNone then .ready else .done, pending := none } : Loop) = rc := by rw [hbz, hrc]; rfl
      rw [hrec] at hend
      refine ⟨_, _, hend, rfl, backE env3, st3, β3, RO3, hq3, hw3.swap hU3 hr3 hs3.wr (shape_loop hr4), hs.size, hs.defers, fun m x hx => ?_⟩
      have key : ∀ (q : Nat) (y : LV), look env3 q = some y → 1000000 ≤ q → ∃ v, gh6 q = some v ∧ VL β3 RO3 (w4.putObj l' (.loop rc)) y v := fun q y hy hq => by
        obtain ⟨v, g1, g2⟩ := hs3.env q y hy
        rw [tmpG hq] at g1
        exact ⟨v, g1, g2.unt hU4.ro (shape_loop hr4)⟩
      unfold backE at hx
      rcases look_app hx with hx | ⟨_, hx⟩
      · obtain ⟨q, g1, g2, g3, g4⟩ := look_selE hx
        obtain ⟨v, g5, g6⟩ := key q x g4 (by omega)
        refine ⟨v, ?_, g6⟩
        rw [tmpAt_lt (by omega)]
        rw [hgh6] at g5
        simp only at g5
        rw [if_pos g1] at g5
        rw [show m = q - 2000000 by omega]; exact g5
      · obtain ⟨q, g1, g2, g3, g4⟩ := look_selE hx
        obtain ⟨v, g5, g6⟩ := key q x g4 (by omega)
        refine ⟨v, ?_, g6⟩
        rw [tmp5 (by omega)]
        rw [hgh6] at g5
        simp only at g5
        rw [if_neg (by omega)] at g5
        rw [show m = q by omega]; exact g5
    refine callsIn_of_wp hf5 hb5 trivial (wpIn_mono (wpcY_in hC hY c5 hk52 β RO _ st _ w1 _ hs5 (hW l)) ?_)
    have fin : ∀ {env' : Env} {st' : St} {β' : K → Nat} {RO' : Nat → Prop} {a' : Act} {w3 : World}, Q (selE 1000000 2000000 0 env') st' → SR E5 fn5.ntmps β' RO' env' st' a' w3 →
        a'.defers = [] ∧ ∃ v, (results fn5 a'.tmps).run P w3 = .ok v w3 ∧ rangePost (wideR none) n P l (PostN E N (nrmQ Q)) { a with defers := [{ target := .collected w.heap.size, args := #[] }] ++ a.defers } (.returned v) w3 := by
      intro env' st' β' RO' a' w3 hq hs3
      obtain ⟨hU3, hr3⟩ := hU5 (b := l) (by omega) (by omega) hs3.wr
      rw [hL1] at hr3
      obtain ⟨hV3, hd3⟩ := hU5 (b := w.heap.size) (Nat.le_refl _) (by omega) hs3.wr
      rw [hD1] at hd3
      have hwE := hback5 hs3.wr
      obtain ⟨wz, hwz⟩ : ∃ wz, wz = w3.putObj l (.loop { rc with state := .exhausted }) := ⟨_, rfl⟩
      have hend : (Instr.endLoop l).run P w3 = .ok none wz := by
        rw [hwz, run_endLoop (P := P) hr3 (by rw [hrc]; simp)]
        exact congrArg (fun p => Result.ok p _) (by rw [hrc])
      have hw4 : WR E β' RO' st' wz := by rw [hwz]; exact hwE.putU hU3 (shape_loop hr3) (by have := h.wr.size; omega) _
      refine ⟨by rw [hs3.defers, hE5]; rfl, _, results_none hr5 _ _ _, none, wz, hend, ?_⟩
      refine ⟨E.nest β' RO' st' wz E.gh ({ target := .collected w.heap.size, args := #[] } :: E.dfs), _, st', β', RO', ⟨rfl, hq⟩, ⟨hw4.nest rfl hw4.obj, h.size, ?_, fun m x hx => ?_⟩, fun _ _ _ _ hw' => hw4.nest_back hw', hw4.size, fun b hb hw' => hw4.keep b hb hw', fun b hb hw' => nest_wr hw4 hb hw', fun b hb hw' hr hr' => ?_, fun _ => Iff.rfl, [w.heap.size], rfl, by simp, fun D hD => ?_⟩
      · show [_] ++ a.defers = _
        rw [h.defers]; rfl
      · obtain ⟨q, g1, g2, g3, g4⟩ := look_selE hx
        obtain ⟨v, g5, g6⟩ := hs3.env q x g4
        refine ⟨v, ?_, by rw [hwz]; exact g6.unt hU3.ro (shape_loop hr3)⟩
        unfold tmpAt at g5
        rw [show Nat.blt q 1000000 = false by rw [Bool.eq_false_iff]; intro hb; rw [Nat.blt_eq] at hb; omega] at g5
        simp only [gh5] at g5
        rw [tmpAt_lt (by omega)]
        show a.tmps[m]? = _
        rw [show m = q - 1000000 by omega]; exact g5
      · rcases hw4.roNew b hr' with h1 | h1 | h1
        · exact hr h1
        · omega
        · exact hw' h1
      · have hD : D = w.heap.size := by simpa using hD
        subst hD
        refine ⟨by show wz.heap[w.heap.size]? = _; rw [hwz]; exact (putObj_other (l := l) (by omega)).trans hd3, fun ⟨k, o, hk, _, e⟩ => hV3.ob k o hk e.symm, hV3.ro, h.wr.size⟩
    rintro e a' w3 ⟨env', st', β', RO', hq, hs3⟩
    cases e with
    | normal => exact fin hq hs3
    | ret => exact fin hq hs3
    | _ => exact hq.elim

end
end Go.Fw

/- The value logic, part 25: functions that hold loops over functions. -/
namespace Go.Fw
open Go

/-- What is asked of code that may hold loops over functions, one after the other. -/
def wpcR (C : Ctx) (P : Program) (kp : Kp) (od : Od) (kp5 : Kp) (od5 : Od) : Code → Env → St → (Exit → Env → St → Prop) → Prop
  | .seq x y, env, st, Q => wpcR C P kp od kp5 od5 x env st (thenW (fun env st => entW kp y env st fun env st => wpcR C P kp od kp5 od5 y env st Q) Q)
  | .block id b, env, st, Q => match b with
    | .rangeFunc g ps assign body => rangeFW C P kp5 od5 kp od g ps.toList assign body env st (Q .normal)
    | b => wpcY C P noY kp od (.block id b) env st Q
  | .cond c x y, env, st, Q => match opd env c with
    | .t (.v (.bool t)) => match t with
      | true => wpcR C P kp od kp5 od5 x env st Q
      | false => wpcR C P kp od kp5 od5 y env st Q
    | _ => False
  | c, env, st, Q => wpcY C P noY kp od c env st Q

def codeROK (N : Nat) (od : Od) : Code → Bool
  | .seq x y => codeROK N od x && codeROK N od y
  | .cond _ x y => codeROK N od x && codeROK N od y
  | .block id b => match b with
    | .rangeFunc _ ps assign body => codeYOK N od assign && (codeYOK N od body && psOK N ps.toList)
    | b => codeYOK N od (.block id b)
  | c => codeYOK N od c

section
variable {C : Ctx} {P : Program} {E : Ent} {N : Nat} {β : K → Nat} {RO : Nat → Prop} {env : Env} {st : St} {a : Act} {w : World} {kp kp5 : Kp} {od od5 : Od} {n : Nat}

theorem postN_of {Q : Exit → Env → St → Prop} {c : Code} (h : c.wpIn (wideR none) n P (Post E N Q) a w) : c.wpIn (wideR none) n P (PostN E N Q) a w :=
  wpIn_mono h fun _ _ _ ⟨env, st, β, RO, hq, hs⟩ => ⟨E, env, st, β, RO, hq, hs, Out.refl E⟩

theorem wpcR_in (hC : C.OK P) : ∀ (c : Code), codeROK N od c = true → ∀ (E : Ent) (β : K → Nat) (RO : Nat → Prop) (env : Env) (st : St) (a : Act) (w : World) (Q : Exit → Env → St → Prop), SR E N β RO env st a w → wpcR C P kp od kp5 od5 c env st Q → c.wpIn (wideR none) n P (PostN E N Q) a w
  | .seq x y, hk, E, β, RO, env, st, a, w, Q, h, hW => by
    simp only [codeROK, Bool.and_eq_true] at hk
    refine wpIn_seq (wpIn_mono (wpcR_in hC x hk.1 E β RO env st a w _ h hW) ?_)
    rintro e a w ⟨E1, env, st, β, RO, hq, hs, hO⟩
    cases e with
    | normal =>
      have hq' : entW kp y env st fun env st => wpcR C P kp od kp5 od5 y env st Q := hq
      obtain ⟨env', st', h1, h2⟩ := hs.ent hq'
      refine wpIn_mono (wpcR_in hC y hk.2 E1 β RO _ _ a w Q h2 h1) ?_
      rintro e a w ⟨E2, env, st, β, RO, hq, hs, hO2⟩
      exact ⟨E2, env, st, β, RO, hq, hs, hO.trans hO2⟩
    | _ => exact ⟨E1, env, st, β, RO, hq, hs, hO⟩
  | .cond c x y, hk, E, β, RO, env, st, a, w, Q, h, hW => by
    simp only [codeROK, Bool.and_eq_true] at hk
    have hc := h.opd c
    simp only [wpcR] at hW
    split at hW
    · rename_i t ht
      rw [ht] at hc
      cases t with
      | true => exact wpIn_cond_true hc.v_inv (wpcR_in hC x hk.1 E β RO env st a w Q h hW)
      | false => exact wpIn_cond_false hc.v_inv (wpcR_in hC y hk.2 E β RO env st a w Q h hW)
    · cases hW
  | .block id b, hk, E, β, RO, env, st, a, w, Q, h, hW => by
    simp only [codeROK] at hk
    simp only [wpcR] at hW
    split at hW
    · refine wpIn_block (wpIn_mono (rangeF_in hC hk h hW) ?_)
      rintro e a w ⟨E1, env, st, β, RO, ⟨rfl, hq⟩, hs, hO⟩
      exact ⟨E1, env, st, β, RO, hq, hs, hO⟩
    · rename_i hb
      refine postN_of (wpcY_in hC noY_ok (.block id b) ?_ β RO env st a w Q h hW)
      split at hk
      · exact (hb _ _ _ _ rfl).elim
      · exact hk
  | .skip, hk, E, β, RO, env, st, a, w, Q, h, hW => postN_of (wpcY_in hC noY_ok .skip hk β RO env st a w Q h hW)
  | .label l, hk, E, β, RO, env, st, a, w, Q, h, hW => postN_of (wpcY_in hC noY_ok (.label l) hk β RO env st a w Q h hW)
  | .exit l, hk, E, β, RO, env, st, a, w, Q, h, hW => postN_of (wpcY_in hC noY_ok (.exit l) hk β RO env st a w Q h hW)
  | .ret, hk, E, β, RO, env, st, a, w, Q, h, hW => postN_of (wpcY_in hC noY_ok .ret hk β RO env st a w Q h hW)
  | .region id ops draw, hk, E, β, RO, env, st, a, w, Q, h, hW => postN_of (wpcY_in hC noY_ok (.region id ops draw) hk β RO env st a w Q h hW)
  | .loop b, hk, E, β, RO, env, st, a, w, Q, h, hW => postN_of (wpcY_in hC noY_ok (.loop b) hk β RO env st a w Q h hW)
  | .scope _, _, _, _, _, _, _, _, _, _, _, hW => hW.elim
  | .goto _, hk, _, _, _, _, _, _, _, _, _, _ => by simp [codeROK, codeYOK] at hk
  | .rangeFunc _ _ _ _, hk, _, _, _, _, _, _, _, _, _, _ => by simp [codeROK, codeYOK] at hk
  | .refuse _, hk, _, _, _, _, _, _, _, _, _, _ => by simp [codeROK, codeYOK] at hk

/-- The marks are come to; the results are what they were. -/
theorem leavesM {fn : Func} {R : Ending → World → Prop} {β' : K → Nat} {RO' : Nat → Prop} {env : Env} {st : St} {a : Act} (hR : ∀ w, SR E N β' RO' env st a w → ∃ v, (results fn a.tmps).run P w = .ok v w ∧ R (.returned v) w) :
    ∀ (Ds : List Nat) (w : World), Ds.Nodup → (∀ D ∈ Ds, w.heap[D]? = some (.deferred (some [])) ∧ Unt β' RO' st D ∧ E.w0.heap.size ≤ D) → SR E N β' RO' env st a w → LeavesInM (wideR none) n P fn a.tmps R (Ds.map fun D => { target := .collected D, args := #[] }) .returning w
  | [], w, _, _, h => hR w h
  | D :: Ds, w, hn, hD, h => by
    obtain ⟨h1, h2, h3⟩ := hD D (List.mem_cons_self ..)
    have hlt := (Array.getElem?_eq_some_iff.1 h1).1
    refine ⟨by simp, .inl ⟨D, w.putObj D (.deferred none), rfl, run_takeDeferred h1, leavesM hR Ds _ (List.nodup_cons.1 hn).2 (fun D' hD' => ?_) ⟨h.wr.putU h2 (shape_def h1) h3 _, h.size, h.defers, fun m x hx => ?_⟩⟩⟩
    · obtain ⟨g1, g2, g3⟩ := hD D' (List.mem_cons_of_mem _ hD')
      exact ⟨(putObj_other (l := D) fun e => (List.nodup_cons.1 hn).1 (e ▸ hD')).trans g1, g2, g3⟩
    · obtain ⟨v, g1, g2⟩ := h.env m x hx
      exact ⟨v, g1, g2.unt h2.ro (shape_def h1)⟩

/-- A function that holds loops over functions is right where its body is. -/
theorem spec_range (hC : C.OK P) {f : Nat} {fn : Func} {c : Code} {args : List LV} {out : List Fr} {Post : LV → Fr → Prop} (kp : Kp) (od : Od) (kp5 : Kp) (od5 : Od) (hf : P.funcs[f]? = some fn) (hb : fn.body = some c) (hk : (Nat.ble fn.ntmps 1000000 && codeROK fn.ntmps od c) = true) (hn : Nat.ble args.length fn.ntmps = true) (hfn : FnOK P f)
    (hW : LV.ok.okL args → wpcR C P kp od kp5 od5 c (argE 0 args) ⟨out, []⟩ (retW C fn.results.toList Post)) : SpecP P f args out Post := by
  simp only [Bool.and_eq_true] at hk
  obtain ⟨hq, hk⟩ := hk
  have hq : fn.ntmps ≤ 1000000 := by simpa using hq
  have hn : args.length ≤ fn.ntmps := by simpa using hn
  refine ⟨hfn, fun β RO w vals hw hv => calls_out (r := none) (n := 0) ?_⟩
  have hlen : vals.length = args.length := hv.1.symm
  have hs : SR (entP β RO w) fn.ntmps β RO (argE 0 args) ⟨out, []⟩ { tmps := vals.toArray ++ Array.replicate (fn.ntmps - vals.toArray.size) undef, defers := [] } w := by
    refine ⟨hw, ⟨by simp; omega, hq⟩, rfl, fun n x hx => ?_⟩
    obtain ⟨_, h2⟩ := argE_look hx
    simp only [Nat.sub_zero] at h2
    have hlt : n < vals.length := by rw [hlen]; exact (List.getElem?_eq_some_iff.1 h2).1
    refine ⟨vals[n], ?_, hv.2 n x _ h2 (List.getElem?_eq_getElem hlt)⟩
    rw [tmpAt_lt (by omega), Array.getElem?_append_left (by simpa using hlt)]
    simp [hlt]
  refine callsIn_of_wp_marks hf hb trivial (wpIn_mono (wpcR_in hC c hk _ β RO _ _ _ w _ hs (hW hv.ok)) ?_)
  have fin : ∀ {E' : Ent} {env : Env} {st : St} {β' : K → Nat} {RO' : Nat → Prop} {a : Act} {w' : World}, (match resL C env st fn.results.toList with | some l => ∃ cs, keepW cs st.cur (Post (resV l)) | none => False) → SR E' fn.ntmps β' RO' env st a w' → Out (entP β RO w) E' →
      LeavesInM (wideR none) 0 P fn a.tmps (fun e w' => ∃ v r ro out' β' RO', e = .returned v ∧ Post r ro ∧ WR (entP β RO w) β' RO' ⟨out', ro⟩ w' ∧ VL β' RO' w' r v) a.defers .returning w' := by
    intro E' env st β' RO' a w' hq hs hO
    split at hq
    rotate_left
    · cases hq
    rename_i l hl
    obtain ⟨cs, hp⟩ := hq
    obtain ⟨cur', hp, hless⟩ := keepW_gives hp
    obtain ⟨Ds, e1, hnd, hDs⟩ := hO.marks
    have hE3 : SR { entP β RO w with gh := E'.gh, dfs := E'.dfs } fn.ntmps β' RO' env st a w' := by
      have hb := hO.back _ _ _ _ hs.wr
      exact ⟨⟨hb.os, hb.tape, hb.output, hb.size, hb.keep, hb.roLt, hb.ro0, hb.roNew, hb.obj, hb.objNew, hb.inj, hb.sep, hb.fzRO, hb.stay⟩, hs.size, hs.defers, hs.env⟩
    rw [hs.defers, e1, show (entP β RO w).dfs = [] from rfl, List.append_nil]
    refine leavesM (E := { entP β RO w with gh := E'.gh, dfs := E'.dfs }) (β' := β') (RO' := RO') (env := env) (st := st) (N := fn.ntmps) (fun w2 h2 => ?_) Ds w' hnd (fun D hD => ?_) hE3
    · obtain ⟨vs, g1, g2⟩ := resL_run hC h2 hl
      have hvl : vs.length = l.length := g2.1.symm
      have hwr : WR (entP β RO w) β' RO' st w2 := by
        have hb := h2.wr
        exact ⟨hb.os, hb.tape, hb.output, hb.size, hb.keep, hb.roLt, hb.ro0, hb.roNew, hb.obj, hb.objNew, hb.inj, hb.sep, hb.fzRO, hb.stay⟩
      refine ⟨outV vs, ?_, _, resV l, cur', st.out, β', RO', rfl, hp, hwr.less (fun k o hk => get_less hless k o hk), ?_⟩
      · unfold results
        have h1' : (fn.results.mapM fun x => match x with | .tmp t => pure (a.tmps.getD t undef) | .cell x t => do loadVar t (← asAddr (a.tmps.getD x undef)) : Sem (Array Value)).run P w2 = .ok vs.toArray w2 := by
          rw [Array.mapM_eq_mapM_toList, map_eq_pure_bind, Sem.run_bind]
          refine (congrArg (fun r => Result.andThen r _) g1).trans ?_
          rfl
        rw [Sem.run_bind]
        refine (congrArg (fun r => Result.andThen r _) h1').trans ?_
        clear g1 h1' g2 hvl
        match vs with
        | [] => simp [outV]
        | [v] => simp [outV]
        | _ :: _ :: _ => simp [outV]
      · match vs, l, hvl, g2 with
        | [], [], _, h2 => exact .tup [] [] rfl fun i x v h => by simp at h
        | [v], [x], _, h2 => exact h2.2 0 x v rfl rfl
        | v1 :: v2 :: vs, x1 :: x2 :: l, _, h2 => exact .tup _ _ h2.1 h2.2
    · obtain ⟨g1, g2, g3, g4⟩ := hDs D hD
      have hlt := (Array.getElem?_eq_some_iff.1 g1).1
      have hro : ¬ RO' D := fun hr => by
        rcases hs.wr.roNew D hr with h | h | h
        · exact g3 h
        · omega
        · exact g2 h
      refine ⟨(hs.wr.keep D hlt g2).trans g1, ⟨hro, fun k o hk e => ?_⟩, g4⟩
      by_cases hc : E'.can k
      · rcases hs.wr.objNew k o hk hc with h | h
        · exact g2 (e ▸ h)
        · omega
      · exact hro (e ▸ hs.wr.fzRO k o hk hc)
  rintro e a w' ⟨E', env, st, β', RO', hq, hs, hO⟩
  cases e with
  | normal => exact fin hq hs hO
  | ret => exact fin hq hs hO
  | _ => exact hq.elim

end
end Go.Fw

/- The value logic, part 26: functions that are walked through where they are called. -/
namespace Go.Fw
open Go

abbrev HW := Nat → List LV → Nat → Env → St → (LV → Env → St → Prop) → Prop
def noH : HW := fun _ _ _ _ _ _ => False

/-- Is it a call of a function that is walked through? -/
def inlB (C : Ctx) (env : Env) (o : Oper) : Option (Nat × List LV) := match o.op with
  | .call c => match c.callee with
    | .value fo => match opd env fo with
      | .fn f cap => match look C.inl f with
        | some _ => some (f, c.args.toList.map (opd env) ++ capArgs cap)
        | none => none
      | .ifc (.bd f) x => match look C.inl f with
        | some _ => some (f, x :: c.args.toList.map (opd env))
        | none => none
      | _ => none
    | _ => none
  | _ => none

/-- Is it a call of a method of an interface value? -/
def invB (env : Env) (o : Oper) : Option (LV × (String × List LV)) := match o.op with
  | .call c => match c.callee with
    | .invoke r n => some (opd env r, n, c.args.toList.map (opd env))
    | _ => none
  | _ => none
/-- A scope through which the run goes without a jump. -/
theorem wpIn_scope {F : Fence} {n : Nat} {P : Program} {Q : Exit → Act → World → Prop} {a : Act} {w : World} {c : Code} (h : c.wpIn F n P (Exit.noGoto Q) a w) : (Code.scope c).wpIn F n P Q a w := by
  have s1 : ∀ (b : Frame) (a : Act) (k : List Item) (cs : List Frame) (w : World), step P (lone (b.atR a (.code (.scope c) :: k)) cs w) = .next (lone (b.atR a (.code c :: .inScope c :: k)) cs w) := fun b a k cs w =>
    step_lone_go (by simp [stepG, stepG.exec, Frame.atR])
  have s2 : ∀ (b : Frame) (a : Act) (k : List Item) (cs : List Frame) (w : World), step P (lone (b.atR a (.inScope c :: k)) cs w) = .next (lone (b.atR a k) cs w) := fun b a k cs w =>
    step_lone_go (by simp [stepG, stepG.exec, Frame.atR])
  intro b k cs hro hb hr
  have h0 : (lone (b.atR a (.code (.scope c) :: k)) cs w).fenced P F := fenced_calm hb hr rfl
  obtain ⟨e, a₁, w₁, hq, harr⟩ := h b (.inScope c :: k) cs hro hb hr
  cases e with
  | normal => exact ⟨.normal, a₁, w₁, hq, .head h0 (s1 b a k cs w) (StepsIn.trans harr (.one (fenced_calm hb hr rfl) (s2 b a₁ k cs w₁)))⟩
  | exit id =>
    have hx : exitTo id (.inScope c :: k) = exitTo id k := by simp [exitTo]
    exact ⟨_, a₁, w₁, hq, fun k' hk => .head h0 (s1 b a k cs w) (harr.1 k' (by rw [hx]; exact hk)),
      fun hr' hk => let ⟨k₁, h1, h2⟩ := harr.2 hr' (by rw [hx]; exact hk); ⟨k₁, h1, .head h0 (s1 b a k cs w) h2⟩⟩
  | goto l => exact hq.elim
  | ret => exact ⟨_, a₁, w₁, hq, .of_steps (.one h0 (s1 b a k cs w)) harr⟩
  | panic ch => exact ⟨_, a₁, w₁, hq, .of_steps (.one h0 (s1 b a k cs w)) harr⟩
  | outgrown => exact ⟨_, a₁, w₁, hq, .of_steps (.one h0 (s1 b a k cs w)) harr⟩
/-- The method of a pointer type is this function, which is handed the pointer; or what lies where it points. -/
def MthP (P : Program) (t : Nat) (n : String) (f : Nat) : Prop := ∀ (a : Addr) (w : World), (method (P.types.size + Made.depth) t (.pointer (some a)) n).run P w = .ok (f, .pointer (some a)) w
def MthV (P : Program) (t : Nat) (n : String) (f e : Nat) : Prop := ∀ (a : Addr) (w : World), (method (P.types.size + Made.depth) t (.pointer (some a)) n).run P w = ((do let v ← Instr.loadAt e (.pointer (some a)); pure (f, v)) : Sem (FuncId × Value)).run P w
/-- The call of a method. -/
inductive InvH (C : Ctx) (P : Program) (H : HW) (t : Nat) (k : K) (c : Nat) (n : String) (args : List LV) (s : Nat) (env : Env) (st : St) (K' : LV → Env → St → Prop) : Prop
  | ptr (f : Nat) (hm : MthP P t n f) (h : H f (.ptr k c :: args) s env st K')
  | val (f e : Nat) (hm : MthV P t n f e) (h : someW (loadL C st e (.ptr k c)) fun x => strL (x :: args) fun args => H f args s env st K')
def invW (C : Ctx) (P : Program) (H : HW) (x : LV) (n : String) (args : List LV) (s : Nat) (env : Env) (st : St) (K' : LV → Env → St → Prop) : Prop := match x with
  | .ifc (.ty t) y => match y with
    | .ptr k c => InvH C P H t k c n args s env st K'
    | _ => False
  | _ => False

def opZ (C : Ctx) (P : Program) (H : HW) (b : Nat) (o : Oper) (env : Env) (st : St) (K' : LV → Env → St → Prop) : Prop := match inlB C env o with
  | some (f, args) => strL args fun args => H f args (b + site o.dst) env st fun x env st => strES env st (K' x)
  | none => match invB env o with
    | some (x, n, args) => strL args fun args => invW C P H x n args (b + site o.dst) env st fun x env st => strES env st (K' x)
    | none => opWs C P (b + site o.dst) o env st K'
def opX (C : Ctx) (P : Program) (Y : YW) (H : HW) (b : Nat) (o : Oper) (env : Env) (st : St) (K' : LV → Env → St → Prop) : Prop := match yieldB env o with
  | some (l, args) => Y l args env st fun env st => strES env st (K' (.t (.v (.bool true))))
  | none => opZ C P H b o env st K'

def regGoX (C : Ctx) (P : Program) (Y : YW) (H : HW) (b : Nat) (ops : List Oper) (Q : Env → St → Prop) : List Oper → Env → St → Prop
  | [], env, st => Q env st
  | o :: r, env, st => match gdE ops env o with
    | some true => opX C P Y H b o env st fun x env st => splW (splK o.op) x fun x => regGoX C P Y H b ops Q r (putE env o.dst x) st
    | some false => regGoX C P Y H b ops Q r (putE env o.dst (.tup [])) st
    | none => False

/-- Every order, as a tree tells them. -/
def treeX (C : Ctx) (P : Program) (H : HW) (b : Nat) (ops : List Oper) (Q : Env → St → Prop) : Tr → Env → St → Prop
  | .done, env, st => Q env st
  | .pure i t, env, st => match nth ops i with
    | some o => match gdE ops env o with
      | some true => pureW C env st o.op fun x => splW (splK o.op) x fun x => treeX C P H b ops Q t (putE env o.dst x) st
      | some false => treeX C P H b ops Q t (putE env o.dst (.tup [])) st
      | none => False
    | none => False
  | .eff i t, env, st => match Nat.beq b 0 with
    | true => match nth ops i with
      | some o => match gdE ops env o with
        | some true => effW C P o env st fun x st => splW (splK o.op) x fun x => treeX C P H b ops Q t (putE env o.dst x) st
        | some false => treeX C P H b ops Q t (putE env o.dst (.tup [])) st
        | none => False
      | none => False
    | false => False
  | .last i t L, env, st => match nth ops i with
    | some o => match gdE ops env o with
      | some true => opZ C P H b o env st fun x env st => splW (splK o.op) x fun x => againW C ops L (putE env o.dst x) st (treeX C P H b ops Q t (putE env o.dst x) st)
      | some false => againW C ops L (putE env o.dst (.tup [])) st (treeX C P H b ops Q t (putE env o.dst (.tup [])) st)
      | none => False
    | none => False
  | .fork i t L rest, env, st => (match nth ops i with
    | some o => match gdE ops env o with
      | some true => opZ C P H b o env st fun x env st => splW (splK o.op) x fun x => againW C ops L (putE env o.dst x) st (treeX C P H b ops Q t (putE env o.dst x) st)
      | some false => againW C ops L (putE env o.dst (.tup [])) st (treeX C P H b ops Q t (putE env o.dst (.tup [])) st)
      | none => False
    | none => False) ∧ treeX C P H b ops Q rest env st

/-! ### What is kept where a region is entered -/
/-- The slots of the callers. -/
def ghE : Env → Env
  | [] => []
  | p :: r => match Nat.ble 1000000 p.1 with
    | true => p :: ghE r
    | false => ghE r
theorem look_ghE : ∀ {env : Env} {n : Nat} {x : LV}, look (ghE env) n = some x → look env n = some x ∧ 1000000 ≤ n
  | [], n, x, h => by simp [ghE, look] at h
  | p :: r, n, x, h => by
    simp only [ghE] at h
    split at h
    · rename_i hb
      rw [look_cons] at h ⊢
      split at h
      · rename_i he; cases h; rw [if_pos he]; exact ⟨rfl, he ▸ Nat.le_of_ble_eq_true hb⟩
      · rename_i he; rw [if_neg he]; exact look_ghE h
    · rename_i hb
      obtain ⟨h1, h2⟩ := look_ghE h
      refine ⟨?_, h2⟩
      rw [look_cons, if_neg]
      · exact h1
      · rintro rfl
        rw [Nat.ble_eq_true_of_le h2] at hb; cases hb
/-- The place of an object of a function that is walked through at a call. -/
def rbK (b : Nat) : Nat → Nat → Nat
  | 0, v => b + v
  | n + 1, v => match Nat.blt v 1000003 with
    | true => b + v
    | false => 1000003 * (rbK b n (v / 1000003 - 1) + 1) + v % 1000003
/-- Does an object belong to the call whose objects lie from b on? -/
def subB (b : Nat) : Nat → Nat → Bool
  | 0, _ => false
  | n + 1, k => match Nat.beq (k / 1000003) (b / 1000003) with
    | true => true
    | false => match Nat.blt k 1000003 with
      | true => false
      | false => subB b n (k / 1000003 - 1)
def elB (n : Nat) : List Nat → Bool
  | [] => false
  | m :: r => match Nat.beq m n with
    | true => true
    | false => elB n r
/-- Objects that are kept: those of the callers, and those that are listed. -/
def keepC (b : Nat) (l : List Nat) : Fr → Fr
  | [] => []
  | p :: r => match elB p.1 l with
    | true => p :: keepC b l r
    | false => match subB b 8 p.1 with
      | true => keepC b l r
      | false => p :: keepC b l r
theorem keepC_less {b : Nat} {l : List Nat} : ∀ {cur : Fr} {n : Nat} {o : Ob}, look (keepC b l cur) n = some o → look cur n = some o
  | [], n, o, h => by simp [keepC, look] at h
  | p :: r, n, o, h => by
    have key : ∀ c : Bool, (elB p.1 l = c ∧ c = true) ∨ (elB p.1 l = c ∧ c = false) → True := fun _ _ => trivial
    have stay : look (p :: keepC b l r) n = some o → look (p :: r) n = some o := fun h => by
      rw [look_cons] at h ⊢
      split at h
      · rename_i he; rw [if_pos he]; exact h
      · rename_i he; rw [if_neg he]; exact keepC_less h
    have gone : (elB p.1 l = false ∧ subB b 8 p.1 = true) → look (keepC b l r) n = some o → look (p :: r) n = some o := fun ⟨h1, h2⟩ h => by
      rw [look_cons, if_neg]
      · exact keepC_less h
      · rintro rfl
        exact absurd h (by rw [keepC_none h1 h2]; simp)
    simp only [keepC] at h
    split at h
    · exact stay h
    · rename_i h1
      split at h
      · rename_i h2; exact gone ⟨h1, h2⟩ h
      · exact stay h
where keepC_none {b : Nat} {l : List Nat} {k : Nat} (h1 : elB k l = false) (h2 : subB b 8 k = true) : ∀ {cur : Fr}, look (keepC b l cur) k = none
  | [] => rfl
  | p :: r => by
    simp only [keepC]
    split
    · rename_i h3
      rw [look_cons, if_neg]
      · exact keepC_none h1 h2
      · rintro rfl; rw [h1] at h3; cases h3
    · split
      · exact keepC_none h1 h2
      · rename_i h3
        rw [look_cons, if_neg]
        · exact keepC_none h1 h2
        · rintro rfl; rw [h2] at h3; cases h3
def mapR (b : Nat) : List Nat → List Nat
  | [] => []
  | v :: r => rbK b 8 v :: mapR b r
/-- The callers' objects. -/
def othC : Nat → Fr → Fr
  | 0, _ => []
  | b + 1, cur => keepC (b + 1) [] cur
theorem othC_less {b : Nat} {cur : Fr} {n : Nat} {o : Ob} (h : look (othC b cur) n = some o) : look cur n = some o := by
  cases b with
  | zero => cases h
  | succ b => exact keepC_less h
def mapR0 : Nat → List Nat → List Nat
  | 0, l => l
  | b + 1, l => mapR (b + 1) l
/-- Here the walk may be cut: what follows is told once for all the ways that lead here. -/
inductive CutX (K' : Env → St → Prop) (env : Env) (st : St) : Prop
  | mk (h : K' env st)
theorem CutX.out {K' : Env → St → Prop} {env : Env} {st : St} (h : CutX K' env st) : K' env st := by cases h; assumption
def cutX (l : List Nat) (K' : Env → St → Prop) (env : Env) (st : St) : Prop := match l with
  | 0 :: _ => CutX K' env st
  | _ => K' env st
theorem cutX_out {l : List Nat} {K' : Env → St → Prop} {env : Env} {st : St} (h : cutX l K' env st) : K' env st := by
  unfold cutX at h
  split at h
  · exact h.out
  · exact h
def entX (kp : Kp) (b : Nat) (c : Code) (env : Env) (st : St) (K' : Env → St → Prop) : Prop := match fstR c with
  | some id => match look kp id with
    | some p => keepW p.1 env fun env' => keepW (mapR0 b p.2) st.cur fun cur' => cutX p.2 K' (env' ++ ghE env) ⟨st.out, cur' ++ othC b st.cur⟩
    | none => K' env st
  | none => K' env st

/-- So many rounds at most. -/
def rndX (ent : Env → St → (Env → St → Prop) → Prop) (W : Env → St → (Exit → Env → St → Prop) → Prop) (Q : Exit → Env → St → Prop) : Nat → Env → St → Prop
  | 0, _, _ => False
  | n + 1, env, st => ent env st fun env st => W env st (thenW (rndX ent W Q n) Q)
/-- A loop: a family of states that holds where it starts; or some rounds. -/
inductive LoopX (ent : Env → St → (Env → St → Prop) → Prop) (W : Env → St → (Exit → Env → St → Prop) → Prop) (env : Env) (st : St) (Q : Exit → Env → St → Prop) : Prop
  | mk (ι : Type) (I : ι → Prop) (F : ι → Env) (S : ι → St) (m : ι → Nat) (i : ι) (h : I i) (h0 : ent env st fun env st => env = F i ∧ st = S i)
      (hr : ∀ i, I i → W (F i) (S i) (thenW (fun env st => ∃ j, m j < m i ∧ I j ∧ ent env st fun env st => env = F j ∧ st = S j) Q))
  | rounds (n : Nat) (h : rndX ent W Q n env st)

/-- Jumps do not leave a scope here. -/
def scopeW (Q : Exit → Env → St → Prop) (e : Exit) (env : Env) (st : St) : Prop := match e with
  | .goto _ => False
  | e => Q e env st
/-- What is asked of code. -/
def wpcX (C : Ctx) (P : Program) (Y : YW) (H : HW) (b : Nat) (kp : Kp) (od : Od) : Code → Env → St → (Exit → Env → St → Prop) → Prop
  | .skip, env, st, Q => Q .normal env st
  | .label _, env, st, Q => Q .normal env st
  | .region id ops draw, env, st, Q => match draw with
    | false => regGoX C P Y H b ops.toList (Q .normal) ops.toList env st
    | true => match look od id with
      | some ord => treeX C P H b ops.toList (Q .normal) (trOf ord) env st
      | none => False
  | .seq x y, env, st, Q => wpcX C P Y H b kp od x env st (thenW (fun env st => entX kp b y env st fun env st => wpcX C P Y H b kp od y env st Q) Q)
  | .cond c x y, env, st, Q => match opd env c with
    | .t (.v (.bool t)) => match t with
      | true => wpcX C P Y H b kp od x env st Q
      | false => wpcX C P Y H b kp od y env st Q
    | _ => False
  | .block id c, env, st, Q => wpcX C P Y H b kp od c env st (blockW id Q)
  | .loop c, env, st, Q => LoopX (entX kp b c) (fun env st Q => wpcX C P Y H b kp od c env st Q) env st Q
  | .scope c, env, st, Q => wpcX C P Y H b kp od c env st (scopeW Q)
  | .exit id, env, st, Q => Q (.exit id) env st
  | .ret, env, st, Q => Q .ret env st
  | _, _, _, _ => False

/-- What is known of a call that is walked through. -/
def HOK (P : Program) (H : HW) : Prop := ∀ (E : Ent) (N f s : Nat) (args : List LV) (vals : List Value) (env : Env) (st : St) (K' : LV → Env → St → Prop) (β : K → Nat) (RO : Nat → Prop) (a : Act) (w : World), SR E N β RO env st a w → Vals β RO w args vals → H f args s env st K' →
  FnOK P f ∧ Calls P f vals.toArray w fun e w' => ∃ v x env' st' β' RO', e = .returned v ∧ K' x env' st' ∧ SR E N β' RO' env' st' a w' ∧ VL β' RO' w' x v
theorem noH_ok {P : Program} : HOK P noH := fun _ _ _ _ _ _ _ _ _ _ _ _ _ _ _ h => h.elim

section
variable {C : Ctx} {P : Program} {E : Ent} {N : Nat} {β β' : K → Nat} {RO RO' : Nat → Prop} {env env' : Env} {st st' : St} {a : Act} {w w' : World} {kp : Kp} {od : Od} {r : Option Nat} {n b : Nat} {Y : YW} {H : HW}

theorem call_any {o : Oper} {c : Call} {fo : Operand} {f : Nat} {cap : List (K × Nat)} {Q : Act → World → Prop} (hop : o.op = .call c) (hcal : c.callee = .value fo) (h : SR E N β RO env st a w) (hf : opd env fo = .fn f cap) (hfn : FnOK P f)
    (hcalls : Calls P f (c.args.toList.map a.eval ++ cap.map fun p => Value.pointer (some ⟨β p.1, p.2, none⟩)).toArray w fun e w' => ∃ v, e = .returned v ∧ Q (a.put o.dst v) w') : o.wp P a w Q fun _ _ _ => False := by
  have hfv := h.opd fo
  rw [hf] at hfv
  cases hv : a.eval fo <;> rw [hv] at hfv <;> cases hfv
  unfold FnOK at hfn
  cases hfun : P.funcs[f]? with
  | none => simp [hfun] at hfn
  | some fn =>
    simp only [hfun, Option.any_some, Bool.and_eq_true, bne_iff_ne, ne_eq] at hfn
    have hbody : fn.body.isNone = false := by
      cases hb : fn.body with
      | none => simp [hb] at hfn
      | some _ => rfl
    have hrun : (execOp a.eval o).run P w = .ok (.enter f (c.args.toList.map a.eval ++ cap.map fun p => Value.pointer (some ⟨β p.1, p.2, none⟩)).toArray) w := by
      have hname : (fn.name == "runtime.NumGoroutine") = false := by simpa using hfn.2
      simp only [execOp, hop, resolve, hcal, hv, Deferred.ofValue, Sem.run_bind, Sem.run_pure, Result.andThen_ok, invoke, callFunc, run_program, hfun, hname, hbody, Bool.false_eq_true, if_false]
      congr 2
      rw [← Array.toList_inj]
      simp
    unfold Oper.wp
    rw [hrun]
    simp only [Oper.upon]
    refine hcalls.mono ?_
    rintro e w' ⟨v, rfl, h1⟩
    exact h1
theorem bnd_inv (h : SR E N β RO env st a w) {fo : Operand} {f : Nat} {x : LV} (hf : opd env fo = .ifc (.bd f) x) : ∃ u, a.eval fo = .func (.func f) #[u] #[] ∧ VL β RO w x u := by
  have hfv := h.opd fo
  rw [hf] at hfv
  generalize a.eval fo = z at hfv
  cases hfv with
  | ifc _ _ v hv => exact ⟨v, rfl, hv⟩
theorem vals_bnd (h : SR E N β RO env st a w) {x : LV} {u : Value} (hx : VL β RO w x u) (l : List Operand) : Vals β RO w (x :: l.map (opd env)) (u :: l.map a.eval) := by
  refine ⟨by simp, fun i y v hy hv => ?_⟩
  cases i with
  | zero => simp at hy hv; subst hy; subst hv; exact hx
  | succ i =>
    simp only [List.getElem?_cons_succ, List.getElem?_map] at hy hv
    cases ho : l[i]? with
    | none => simp [ho] at hy
    | some o => simp [ho] at hy hv; rw [← hy, ← hv]; exact h.opd o
theorem call_bnd {o : Oper} {c : Call} {fo : Operand} {f : Nat} {u : Value} {Q : Act → World → Prop} (hop : o.op = .call c) (hcal : c.callee = .value fo) (hv : a.eval fo = .func (.func f) #[u] #[]) (hfn : FnOK P f)
    (hcalls : Calls P f (u :: c.args.toList.map a.eval).toArray w fun e w' => ∃ v, e = .returned v ∧ Q (a.put o.dst v) w') : o.wp P a w Q fun _ _ _ => False := by
  unfold FnOK at hfn
  cases hfun : P.funcs[f]? with
  | none => simp [hfun] at hfn
  | some fn =>
    simp only [hfun, Option.any_some, Bool.and_eq_true, bne_iff_ne, ne_eq] at hfn
    have hbody : fn.body.isNone = false := by
      cases hb : fn.body with
      | none => simp [hb] at hfn
      | some _ => rfl
    have hrun : (execOp a.eval o).run P w = .ok (.enter f (u :: c.args.toList.map a.eval).toArray) w := by
      have hname : (fn.name == "runtime.NumGoroutine") = false := by simpa using hfn.2
      simp only [execOp, hop, resolve, hcal, hv, Deferred.ofValue, Sem.run_bind, Sem.run_pure, Result.andThen_ok, invoke, callFunc, run_program, hfun, hname, hbody, Bool.false_eq_true, if_false]
      congr 2
      rw [← Array.toList_inj]
      simp
    unfold Oper.wp
    rw [hrun]
    simp only [Oper.upon]
    refine hcalls.mono ?_
    rintro e w' ⟨v, rfl, h1⟩
    exact h1
theorem vals_cap (h : SR E N β RO env st a w) (l : List Operand) (cap : List (K × Nat)) : Vals β RO w (l.map (opd env) ++ capArgs cap) (l.map a.eval ++ cap.map fun p => Value.pointer (some ⟨β p.1, p.2, none⟩)) := by
  refine ⟨by simp [capArgs], fun i x v hx hv => ?_⟩
  by_cases hi : i < l.length
  · rw [List.getElem?_append_left (by simpa using hi), List.getElem?_map] at hx hv
    cases hc : l[i]? with
    | none => simp [hc] at hx
    | some y =>
      simp only [hc, Option.map_some, Option.some.injEq] at hx hv
      rw [← hx, ← hv]; exact h.opd y
  · rw [List.getElem?_append_right (by simp; simpa using hi)] at hx hv
    simp only [List.length_map] at hx hv
    simp only [capArgs, List.getElem?_map] at hx hv
    cases hc : cap[i - l.length]? with
    | none => rw [hc] at hx; cases hx
    | some p =>
      simp only [hc, Option.map_some, Option.some.injEq] at hx hv
      rw [← hx, ← hv]; exact .ptr _ _

theorem inv_any {o : Oper} {c : Call} {ro : Operand} {n : String} {t f : Nat} {v u : Value} {Q : Act → World → Prop} (hop : o.op = .call c) (hcal : c.callee = .invoke ro n) (hr : a.eval ro = .iface t v)
    (hm : (method (P.types.size + Made.depth) t v n).run P w = .ok (f, u) w) (hfn : FnOK P f) (hcalls : Calls P f (u :: c.args.toList.map a.eval).toArray w fun e w' => ∃ v, e = .returned v ∧ Q (a.put o.dst v) w') : o.wp P a w Q fun _ _ _ => False := by
  unfold FnOK at hfn
  cases hfun : P.funcs[f]? with
  | none => simp [hfun] at hfn
  | some fn =>
    simp only [hfun, Option.any_some, Bool.and_eq_true, bne_iff_ne, ne_eq] at hfn
    have hbody : fn.body.isNone = false := by
      cases hb : fn.body with
      | none => simp [hb] at hfn
      | some _ => rfl
    have hname : (fn.name == "runtime.NumGoroutine") = false := by simpa using hfn.2
    have hex : (#[a.eval ro] ++ c.args.map a.eval).extract 1 (#[a.eval ro] ++ c.args.map a.eval).size = c.args.map a.eval := by
      rw [← Array.toList_inj]; simp only [Array.toList_extract, Array.toList_map]; simp [List.take_of_length_le]
    have h0 : (#[a.eval ro] ++ c.args.map a.eval)[0]? = some (a.eval ro) := by rw [Array.getElem?_append]; simp
    have hrun : (execOp a.eval o).run P w = .ok (.enter f (u :: c.args.toList.map a.eval).toArray) w := by
      simp only [execOp, hop, resolve, hcal, Sem.run_bind, Sem.run_pure, Result.andThen_ok, invoke, h0, hex]
      rw [hr]
      simp only [callMethod, Sem.run_bind, run_program, Result.andThen_ok, hm, callFunc, hfun, hname, hbody, Bool.false_eq_true, if_false]
      have : (#[u] ++ c.args.map a.eval) = (u :: c.args.toList.map a.eval).toArray := by rw [← Array.toList_inj]; simp
      rw [this]; rfl
    unfold Oper.wp
    rw [hrun]
    simp only [Oper.upon]
    refine hcalls.mono ?_
    rintro e w' ⟨v, rfl, h1⟩
    exact h1

theorem opZ_sound (hC : C.OK P) (hH : HOK P H) {o : Oper} {K' : LV → Env → St → Prop} {Q : Act → World → Prop} (h : SR E N β RO env st a w) (hW : opZ C P H b o env st K')
    (hQ : ∀ v x env' st' β' RO' w', K' x env' st' → SR E N β' RO' env' st' a w' → VL β' RO' w' x v → Q (a.put o.dst v) w') : o.wp P a w Q fun _ _ _ => False := by
  unfold opZ at hW
  split at hW
  · rename_i f args hi
    unfold inlB at hi
    split at hi
    rotate_left
    · cases hi
    rename_i c hop
    split at hi
    rotate_left
    · cases hi
    rename_i fo hcal
    split at hi
    · rename_i f' cap hf
      split at hi
      rotate_left
      · cases hi
      cases hi
      obtain ⟨h1, h2⟩ := hH E N f _ _ _ env st _ β RO a w h (vals_cap h c.args.toList cap) (strL_gives hW)
      refine call_any hop hcal h hf h1 (h2.mono ?_)
      rintro e w' ⟨v, x, env', st', β', RO', rfl, hK, hs, hv⟩
      exact ⟨v, rfl, hQ v x env' st' β' RO' w' (strES_gives hK) hs hv⟩
    · rename_i f' x hf
      split at hi
      rotate_left
      · cases hi
      cases hi
      obtain ⟨u, hu, hx⟩ := bnd_inv h hf
      obtain ⟨h1, h2⟩ := hH E N f _ _ _ env st _ β RO a w h (vals_bnd h hx c.args.toList) (strL_gives hW)
      refine call_bnd hop hcal hu h1 (h2.mono ?_)
      rintro e w' ⟨v, x, env', st', β', RO', rfl, hK, hs, hv⟩
      exact ⟨v, rfl, hQ v x env' st' β' RO' w' (strES_gives hK) hs hv⟩
    · cases hi
  · split at hW
    rotate_left
    · exact opWs_sound hC h hW hQ
    rename_i x nm args hi
    unfold invB at hi
    split at hi
    rotate_left
    · cases hi
    rename_i c hop
    split at hi
    rotate_left
    · cases hi
    rename_i ro nm' hcal
    cases hi
    have hro := h.opd ro
    have hW := strL_gives hW
    unfold invW at hW
    split at hW
    rotate_left
    · cases hW
    rename_i t y hx
    split at hW
    rotate_left
    · cases hW
    rename_i k cc
    rw [hx] at hro
    have inv : ∀ u, VL β RO w (.ifc t (.ptr k cc)) u → u = .iface t (.pointer (some ⟨β k, cc, none⟩)) := fun u hu => by
      cases hu with
      | ifc _ _ v hv => cases hv; rfl
    have hr := inv _ hro
    have hvs := vals_map h c.args.toList
    have cons : ∀ {x : LV} {v : Value}, VL β RO w x v → Vals β RO w (x :: c.args.toList.map (opd env)) (v :: c.args.toList.map a.eval) := fun hx => ⟨by simp, fun i y u hy hu => by
      cases i with
      | zero => simp at hy hu; subst hy; subst hu; exact hx
      | succ i => exact hvs.2 i y u hy hu⟩
    have fin : ∀ {f : Nat} {u : Value} {x : LV}, VL β RO w x u → (method (P.types.size + Made.depth) t (.pointer (some ⟨β k, cc, none⟩)) nm).run P w = .ok (f, u) w →
        H f (x :: c.args.toList.map (opd env)) (b + site o.dst) env st (fun x env st => strES env st (K' x)) → o.wp P a w Q fun _ _ _ => False := fun {f u x} hx hm hH' => by
      obtain ⟨h1, h2⟩ := hH E N f _ _ _ env st _ β RO a w h (cons hx) hH'
      refine inv_any hop hcal hr hm h1 (h2.mono ?_)
      rintro e w' ⟨v, x, env', st', β', RO', rfl, hK, hs, hv⟩
      exact ⟨v, rfl, hQ v x env' st' β' RO' w' (strES_gives hK) hs hv⟩
    cases hW with
    | ptr f hm hH' => exact fin (.ptr k cc) (hm _ _) hH'
    | val f e hm hH' =>
      obtain ⟨x, hl, hH'⟩ := someW_iff hH'
      obtain ⟨u, g1, g2⟩ := load_sound hC h.wr (.ptr (β := β) k cc) hl
      refine fin g2 ?_ (strL_gives hH')
      rw [hm]
      simp only [Sem.run_bind, g1, Result.andThen_ok, Sem.run_pure]
theorem opX_in (hC : C.OK P) (hY : YOK P E N Y) (hH : HOK P H) {o : Oper} {K' : LV → Env → St → Prop} {Q : Act → World → Prop} {Q' : Exit → Act → World → Prop} (hd : ∀ c, o.op ≠ .defer c) (h : SR E N β RO env st a w) (hW : opX C P Y H b o env st K')
    (hQ : ∀ v x env' st' β' RO' w', K' x env' st' → SR E N β' RO' env' st' a w' → VL β' RO' w' x v → Q (a.put o.dst v) w') : o.wpIn (wideR r) n P a w Q Q' := by
  unfold opX at hW
  split at hW
  · rename_i l args hy
    refine opY_in (C := C) (K' := K') hC hY hd h ?_ hQ
    unfold opY
    rw [hy]; exact hW
  · exact wp_in hd (fun _ _ h => h) (fun _ _ _ _ h => h) (opZ_sound hC hH h hW hQ)

theorem regGoX_in (hC : C.OK P) (hY : YOK P E N Y) (hH : HOK P H) {ops : Array Oper} {Q : Env → St → Prop} {Q' : Exit → Act → World → Prop} (hnd : noDef ops.toList = true) (hd : dstOK N ops.toList = true) (hQ : ∀ env st β RO a w, Q env st → SR E N β RO env st a w → Q' .normal a w) :
    ∀ (l : List Oper) (k : Nat) (β : K → Nat) (RO : Nat → Prop) (env : Env) (st : St) (a : Act) (w : World), ops.toList.drop k = l → SR E N β RO env st a w → regGoX C P Y H b ops.toList Q l env st → wpOpsIn (wideR r) n P ops Q' (List.range' k l.length) a w
  | [], k, β, RO, env, st, a, w, _, h, hW => hQ env st β RO a w hW h
  | o :: l, k, β, RO, env, st, a, w, hk, h, hW => by
    have hok : ops[k]? = some o := by
      have : (ops.toList.drop k)[0]? = some o := by rw [hk]; rfl
      rw [List.getElem?_drop, Nat.add_zero, Array.getElem?_toList] at this
      exact this
    have hdr : ops.toList.drop (k + 1) = l := by
      have := congrArg (List.drop 1) hk
      rw [List.drop_drop] at this
      simpa [Nat.add_comm] using this
    have hmem : o ∈ ops.toList := by
      have : o ∈ ops.toList.drop k := by rw [hk]; exact List.mem_cons_self ..
      exact List.mem_of_mem_drop this
    have hdo : ∀ d, o.dst = some d → d < N := dstOK_mem hd o hmem
    simp only [List.length_cons, List.range'_succ, wpOpsIn, hok]
    unfold regGoX at hW
    split at hW
    · rename_i hg
      rw [gdE_wanted hd h hg, if_pos rfl]
      exact opX_in hC hY hH (noDef_mem hnd o hmem) h hW fun v x env' st' β' RO' w' hK hs hv =>
        regGoX_in hC hY hH hnd hd hQ l (k + 1) β' RO' _ st' _ w' hdr (hs.put hv hdo) (splW_gives hK)
    · rename_i hg
      rw [gdE_wanted hd h hg, if_neg (by simp)]
      exact ⟨fun _ _ => trivial, regGoX_in hC hY hH hnd hd hQ l (k + 1) β RO _ st _ w hdr (h.put .skip hdo) hW⟩
    · cases hW

theorem tree_synX {ops : Array Oper} {Q : Env → St → Prop} {i : Nat} {o : Oper} {t : Tr} {L pf : List Nat} {listed : Array Bool} {env : Env} {st : St} (hC : C.OK P) (hH : HOK P H) (hd : dstOK N ops.toList = true) (hno : ops[i]? = some o) (hr : i ∈ Region.ready .any ops listed) (h2 : (pf.all fun j => belB ops 3 o j || L.contains j) = true)
    (hsub : ∀ env st, treeX C P H b ops.toList Q t env st → treeF P E N ops (fun ef st => ∃ env, ef = look env ∧ Q env st) t (inP_ pf) (look env) (listed.setIfInBounds i true) (look env) st)
    (h : match gdE ops.toList env o with
      | some true => opZ C P H b o env st fun x env st => splW (splK o.op) x fun x => againW C ops.toList L (putE env o.dst x) st (treeX C P H b ops.toList Q t (putE env o.dst x) st)
      | some false => againW C ops.toList L (putE env o.dst (.tup [])) st (treeX C P H b ops.toList Q t (putE env o.dst (.tup [])) st)
      | none => False) :
    ∃ o, ops[i]? = some o ∧ i ∈ Region.ready .any ops listed ∧ SynG P E N ops o (look env) st fun ef' st' => (∀ j, inP_ pf j = true → Befo ops o j ∨ Again P E N ops j ef' st') ∧
      treeF P E N ops (fun ef st => ∃ env, ef = look env ∧ Q env st) t (inP_ pf) ef' (listed.setIfInBounds i true) ef' st' := by
  have hdo : ∀ d, o.dst = some d → d < N := dstOK_mem hd o (by
    have := Array.mem_of_getElem? hno
    simpa using this)
  split at h
  · rename_i hg
    refine ⟨o, hno, hr, .inl ⟨gdE_F hg, fun β RO a w hs => ?_⟩⟩
    have hsr : SR E N β RO env st a w := hs.list fun n x hx => hx
    refine opZ_sound hC hH hsr h fun v x env' st' β' RO' w' hK hs2 hv => ?_
    obtain ⟨g1, g2⟩ := againW_spec (E := E) (N := N) hC (splW_gives hK)
    exact ⟨look (putE env' o.dst x), st', β', RO', ⟨pf_spec h2 g2, hsub _ _ g1⟩, (hs2.put hv hdo).toF⟩
  · rename_i hg
    obtain ⟨g1, g2⟩ := againW_spec (E := E) (N := N) hC h
    refine ⟨o, hno, hr, .inr ⟨gdE_F hg, look (putE env o.dst (.tup [])), fun n x hx => by rw [← look_putE]; exact hx, pf_spec h2 g2, hsub _ _ g1⟩⟩
  · cases h
theorem treeX_treeF (hC : C.OK P) (hH : HOK P H) {ops : Array Oper} {Q : Env → St → Prop} (hd : dstOK N ops.toList = true) : ∀ (t : Tr) (pf : List Nat) (env0 pre env : Env) (listed : Array Bool) (st : St), env = pre ++ env0 → treeB ops t pf listed = true → treeX C P H b ops.toList Q t env st →
    treeF P E N ops (fun ef st => ∃ env, ef = look env ∧ Q env st) t (inP_ pf) (look env0) listed (look env) st
  | .done, pf, env0, pre, env, listed, st, hp, ho, h => ⟨env, rfl, h⟩
  | .pure i t, pf, env0, pre, env, listed, st, hp, ho, h => by
    simp only [treeX] at h
    split at h
    rotate_left
    · cases h
    rename_i o hno
    rw [nth_eq, Array.getElem?_toList] at hno
    simp only [treeB, hno, Bool.and_eq_true] at ho
    have hF := firstB_spec ho.1
    split at h
    · rename_i hg
      obtain ⟨x, hx, hK⟩ := pureW_pev h
      refine ⟨o, x, hno, hF, .inl ⟨gdE_F hg, pureS_of hC hx⟩, ?_⟩
      obtain ⟨pre', hp'⟩ := putE_app hp o.dst x
      rw [← look_putE, ← inP_cons]
      exact treeX_treeF hC hH hd t (i :: pf) env0 pre' _ _ st hp' ho.2 (splW_gives hK)
    · rename_i hg
      refine ⟨o, .tup [], hno, hF, .inr ⟨gdE_F hg, rfl⟩, ?_⟩
      obtain ⟨pre', hp'⟩ := putE_app hp o.dst (.tup [])
      rw [← look_putE, ← inP_cons]
      exact treeX_treeF hC hH hd t (i :: pf) env0 pre' _ _ st hp' ho.2 h
    · cases h
  | .eff i t, pf, env0, pre, env, listed, st, hp, ho, h => by
    simp only [treeX] at h
    split at h
    rotate_left
    · cases h
    split at h
    rotate_left
    · cases h
    rename_i o hno
    rw [nth_eq, Array.getElem?_toList] at hno
    simp only [treeB, hno, Bool.and_eq_true] at ho
    have hrd := sole_spec ho.1
    split at h
    · rename_i hg
      refine ⟨o, _, hno, hrd, .inl ⟨gdE_F hg, effS_of hC hp h⟩, fun x st' hR => ⟨hR.1, ?_⟩⟩
      obtain ⟨pre', hp'⟩ := putE_app hp o.dst x
      rw [← look_putE]
      exact treeX_treeF hC hH hd t pf env0 pre' _ _ st' hp' ho.2 (splW_gives hR.2)
    · rename_i hg
      refine ⟨o, fun x st' => x = .tup [] ∧ st' = st, hno, hrd, .inr ⟨gdE_F hg, rfl, rfl⟩, ?_⟩
      rintro x st' ⟨rfl, rfl⟩
      refine ⟨fun _ _ h => h, ?_⟩
      obtain ⟨pre', hp'⟩ := putE_app hp o.dst (.tup [])
      rw [← look_putE]
      exact treeX_treeF hC hH hd t pf env0 pre' _ _ st' hp' ho.2 h
    · cases h
  | .last i t L, pf, env0, pre, env, listed, st, hp, ho, h => by
    simp only [treeX] at h
    split at h
    rotate_left
    · cases h
    rename_i o hno
    rw [nth_eq, Array.getElem?_toList] at hno
    simp only [treeB, hno, Bool.and_eq_true] at ho
    obtain ⟨h1, h2, h3⟩ := ho
    exact tree_synX hC hH hd hno (by simpa using h1) h2 (fun env st hk => treeX_treeF hC hH hd t pf env [] env _ st rfl h3 hk) h
  | .fork i t L rest, pf, env0, pre, env, listed, st, hp, ho, h => by
    simp only [treeX] at h
    obtain ⟨h, hr⟩ := h
    split at h
    rotate_left
    · cases h
    rename_i o hno
    rw [nth_eq, Array.getElem?_toList] at hno
    simp only [treeB, hno, Bool.and_eq_true] at ho
    obtain ⟨h1, h2, h3, h4⟩ := ho
    exact ⟨tree_synX hC hH hd hno (by simpa using h1) h2 (fun env st hk => treeX_treeF hC hH hd t pf env [] env _ st rfl h3 hk) h, treeX_treeF hC hH hd rest pf env0 pre env listed st hp h4 hr⟩
theorem drawnX (hC : C.OK P) (hH : HOK P H) {ops : Array Oper} {ord : List (Nat × Kind)} {Q : Env → St → Prop} {K' : Act → World → Prop} (hd : dstOK N ops.toList = true) (ho : ordOK ops ord = true) (hQ : ∀ env st β RO a w, Q env st → SR E N β RO env st a w → K' a w)
    (h : SR E N β RO env st a w) (hW : treeX C P H b ops.toList Q (trOf ord) env st) : wpAny P .any ops (onlyN K') ops.size (Array.replicate ops.size false) a { w with drawn := w.drawn + 1 } := by
  have hs1 := h.drew (w.drawn + 1)
  simp only [ordOK, Bool.and_eq_true] at ho
  obtain ⟨hns, hdis, hcov, htr⟩ := ho
  have hdist : Distinct ops := fun i j o p d hi hj ho hp => distB_spec hdis i j o p d (by simpa using hi) (by simpa using hj) ho hp
  have hN : ∀ (i : Nat) (o : Oper) (d : Nat), ops[i]? = some o → o.dst = some d → d < N := fun i o d hi hd' => dstOK_mem hd o (by have := Array.mem_of_getElem? hi; simpa using this) d hd'
  have hF : treeF P E N ops (fun ef st => ∃ env, ef = look env ∧ Q env st) (trOf ord) (inP_ []) (look env) (Array.replicate ops.size false) (look env) st := treeX_treeF hC hH hd _ [] env [] env _ st rfl htr hW
  have hA := (treeF_any (Region.noSelect_spec hns) hN hdist (trOf ord) ops.size (inP_ []) (look env) _ _ _ st hcov down0 (fun _ _ _ _ _ _ => .inl rfl) (fun k hk => by simp [inP_] at hk) hF).2 rfl
  refine anyF_sound hN ?_ (fun e a w h => h.elim) ops.size _ _ _ _ _ β RO a _ hs1.toF hA
  rintro ef st β RO a w hs ⟨env, rfl, hq⟩
  exact hQ env st β RO a w hq (hs.list fun n x hx => hx)

theorem look_appF : ∀ {a b : Fr} {n : Nat} {x : Ob}, look (a ++ b) n = some x → look a n = some x ∨ look b n = some x
  | [], b, n, x, h => .inr h
  | p :: r, b, n, x, h => by
    rw [List.cons_append, look_cons] at h
    rw [look_cons]
    split at h
    · rename_i he; rw [if_pos he]; exact .inl h
    · rename_i he; rw [if_neg he]; exact look_appF h
theorem SR.entX (h : SR E N β RO env st a w) {c : Code} {K' : Env → St → Prop} (hW : entX kp b c env st K') : ∃ env' st', K' env' st' ∧ SR E N β RO env' st' a w := by
  unfold Go.Fw.entX at hW
  split at hW
  · split at hW
    · obtain ⟨env', hW, h2⟩ := keepW_gives hW
      obtain ⟨cur', h1, h3⟩ := keepW_gives hW
      replace h1 := cutX_out h1
      refine ⟨_, _, h1, h.less (fun k o hk => get_less (fun n x hx => ?_) k o hk) fun n x hx => ?_⟩
      · rcases look_appF hx with hx | hx
        · exact h3 n x hx
        · exact othC_less hx
      rcases look_app hx with hx | ⟨_, hx⟩
      · exact h2 n x hx
      · exact (look_ghE hx).1
    · exact ⟨env, st, hW, h⟩
  · exact ⟨env, st, hW, h⟩

theorem rndX_in {c : Code} {Q : Exit → Env → St → Prop} (hb : ∀ (β : K → Nat) (RO : Nat → Prop) (env : Env) (st : St) (a : Act) (w : World) (Q : Exit → Env → St → Prop), SR E N β RO env st a w → wpcX C P Y H b kp od c env st Q → c.wpIn (wideR r) n P (Post E N Q) a w) :
    ∀ (m : Nat) (β : K → Nat) (RO : Nat → Prop) (env : Env) (st : St) (a : Act) (w : World), SR E N β RO env st a w → rndX (entX kp b c) (fun env st Q => wpcX C P Y H b kp od c env st Q) Q m env st → Code.roundsIn (wideR r) n P c (Post E N Q) m a w
  | 0, _, _, _, _, _, _, _, hW => hW.elim
  | m + 1, β, RO, env, st, a, w, h, hW => by
    obtain ⟨env1, st1, hW, hs⟩ := h.entX hW
    rw [roundsIn_succ]
    refine wpIn_mono (hb β RO env1 st1 a w _ hs hW) ?_
    rintro e a' w' ⟨env2, st2, β2, RO2, hq, hs2⟩
    cases e with
    | normal => exact rndX_in hb m β2 RO2 env2 st2 a' w' hs2 hq
    | _ => exact ⟨env2, st2, β2, RO2, hq, hs2⟩

theorem wpcX_in (hC : C.OK P) (hY : YOK P E N Y) (hH : HOK P H) : ∀ (c : Code), codeYOK N od c = true → ∀ (β : K → Nat) (RO : Nat → Prop) (env : Env) (st : St) (a : Act) (w : World) (Q : Exit → Env → St → Prop), SR E N β RO env st a w → wpcX C P Y H b kp od c env st Q → c.wpIn (wideR r) n P (Post E N Q) a w
  | .skip, _, β, RO, env, st, a, w, Q, h, hW => wpIn_skip ⟨env, st, β, RO, hW, h⟩
  | .label _, _, β, RO, env, st, a, w, Q, h, hW => wpIn_label ⟨env, st, β, RO, hW, h⟩
  | .exit _, _, β, RO, env, st, a, w, Q, h, hW => wpIn_exit ⟨env, st, β, RO, hW, h⟩
  | .ret, _, β, RO, env, st, a, w, Q, h, hW => wpIn_ret ⟨env, st, β, RO, hW, h⟩
  | .region id ops draw, hk, β, RO, env, st, a, w, Q, h, hW => by
    simp only [codeYOK, Bool.and_eq_true] at hk
    cases draw with
    | false =>
      refine wpIn_region ?_
      rw [List.range_eq_range', show ops.size = ops.toList.length by simp]
      exact regGoX_in hC hY hH hk.1 hk.2.1 (fun env st β RO a w hq hs => ⟨env, st, β, RO, hq, hs⟩) ops.toList 0 β RO env st a w rfl h hW
    | true =>
      obtain ⟨h0, h1, h2⟩ := hk
      simp only [wpcX] at hW
      simp only at h2
      split at hW
      · rename_i ord ho
        rw [ho] at h2
        have hA := drawnX (K' := fun a w => Post E N Q .normal a w) hC hH h1 h2 (fun env st β RO a w hq hs => ⟨env, st, β, RO, hq, hs⟩) h hW
        exact wpIn_mono (wpIn_region_any hC.mixed (wpAny_in h0 _ _ _ _ hA)) fun e a w hq => by
          cases e <;> first | exact hq | exact hq.elim
      · cases hW
  | .seq x y, hk, β, RO, env, st, a, w, Q, h, hW => by
    simp only [codeYOK, Bool.and_eq_true] at hk
    refine wpIn_seq (wpIn_mono (wpcX_in hC hY hH x hk.1 β RO env st a w _ h hW) ?_)
    rintro e a w ⟨env, st, β, RO, hq, hs⟩
    cases e with
    | normal =>
      have hq' : entX kp b y env st fun env st => wpcX C P Y H b kp od y env st Q := hq
      obtain ⟨env', st', h1, h2⟩ := hs.entX hq'
      exact wpcX_in hC hY hH y hk.2 β RO _ _ a w Q h2 h1
    | _ => exact ⟨env, st, β, RO, hq, hs⟩
  | .cond c x y, hk, β, RO, env, st, a, w, Q, h, hW => by
    simp only [codeYOK, Bool.and_eq_true] at hk
    have hc := h.opd c
    simp only [wpcX] at hW
    split at hW
    · rename_i t ht
      rw [ht] at hc
      cases t with
      | true => exact wpIn_cond_true hc.v_inv (wpcX_in hC hY hH x hk.1 β RO env st a w Q h hW)
      | false => exact wpIn_cond_false hc.v_inv (wpcX_in hC hY hH y hk.2 β RO env st a w Q h hW)
    · cases hW
  | .block id c, hk, β, RO, env, st, a, w, Q, h, hW => by
    refine wpIn_block (wpIn_mono (wpcX_in hC hY hH c (by simpa [codeYOK] using hk) β RO env st a w _ h hW) ?_)
    rintro e a w ⟨env, st, β, RO, hq, hs⟩
    cases e with
    | exit i =>
      simp only [blockW] at hq
      simp only [Exit.inBlock]
      by_cases hi : i = id
      · subst hi
        simp only [Nat.beq_refl] at hq
        rw [if_pos rfl]; exact ⟨env, st, β, RO, hq, hs⟩
      · rw [if_neg hi]
        split at hq
        · rename_i hb; exact absurd (by simpa using hb) hi
        · exact ⟨env, st, β, RO, hq, hs⟩
    | _ => exact ⟨env, st, β, RO, hq, hs⟩
  | .loop c, hk, β, RO, env, st, a, w, Q, h, hW => by
    have hkc : codeYOK N od c = true := by simpa [codeYOK] using hk
    simp only [wpcX] at hW
    cases hW with
    | rounds m hW => exact wpIn_loop_rounds m (rndX_in (fun β RO env st a w Q hs hW => wpcX_in hC hY hH c hkc β RO env st a w Q hs hW) m β RO env st a w h hW)
    | mk ι I F S m i0 hI0 hE0 hW =>
    obtain ⟨env1, st1, ⟨hF0, hS0⟩, hs0⟩ := h.entX hE0
    classical
    let R : Nat → Act → World → Prop := fun n a w => ∃ i, m i = n ∧ I i ∧ ∃ β RO, SR E N β RO (F i) (S i) a w
    let μ : Act → World → Nat := fun a w => if h : ∃ n, R n a w then Classical.choose (least h) else 0
    refine wpIn_loop (fun a w => ∃ n, R n a w) μ ⟨_, i0, rfl, hI0, β, RO, by rw [← hF0, ← hS0]; exact hs0⟩ ?_
    intro a w hn
    have hμ : μ a w = Classical.choose (least hn) := dif_pos hn
    obtain ⟨i, hi, hI, β, RO, hs⟩ := (Classical.choose_spec (least hn)).1
    refine wpIn_mono (wpcX_in hC hY hH c hkc β RO _ _ a w _ hs (hW i hI)) ?_
    rintro e a' w' ⟨env, st, β, RO, hq, hs⟩
    cases e with
    | normal =>
      obtain ⟨j, hj, hIj, hEj⟩ := hq
      obtain ⟨env1, st1, ⟨hFj, hSj⟩, hs1⟩ := hs.entX hEj
      have hR : R (m j) a' w' := ⟨j, rfl, hIj, β, RO, by rw [← hFj, ← hSj]; exact hs1⟩
      refine ⟨⟨_, hR⟩, ?_⟩
      have h1 : μ a' w' = Classical.choose (least ⟨_, hR⟩) := dif_pos ⟨_, hR⟩
      rw [h1, hμ, ← hi]
      exact Nat.lt_of_le_of_lt ((Classical.choose_spec (least (R := fun n => R n a' w') ⟨_, hR⟩)).2 _ hR) hj
    | _ => exact ⟨env, st, β, RO, hq, hs⟩
  | .scope c, hk, β, RO, env, st, a, w, Q, h, hW => by
    refine wpIn_scope (wpIn_mono (wpcX_in hC hY hH c (by simpa [codeYOK] using hk) β RO env st a w _ h hW) ?_)
    rintro e a w ⟨env, st, β, RO, hq, hs⟩
    cases e with
    | goto l => exact hq.elim
    | _ => exact ⟨env, st, β, RO, hq, hs⟩
  | .goto _, hk, _, _, _, _, _, _, _, _, _ => by simp [codeYOK] at hk
  | .rangeFunc _ _ _ _, hk, _, _, _, _, _, _, _, _, _ => by simp [codeYOK] at hk
  | .refuse _, hk, _, _, _, _, _, _, _, _, _ => by simp [codeYOK] at hk

end

/-! ### A function walked through at its call -/
def BIG : Nat := 1000000000000000
def shE (env : Env) : Env := selE 0 BIG 1000000 env
def unE (env : Env) : Env := selE 1000000 BIG 0 env
def retX (C : Ctx) (rs : List ResultVar) (K' : LV → Env → St → Prop) (e : Exit) (env : Env) (st : St) : Prop := match e with
  | .ret | .normal => match resL C env st rs with
    | some l => K' (resV l) env st
    | none => False
  | _ => False
abbrev InT := List (Nat × (Func × (Code × (Kp × Od))))
/-- Calls of the listed functions are walked through, so deep. -/
def inH (C : Ctx) (P : Program) (T : InT) : Nat → HW
  | 0 => noH
  | d + 1 => fun f args s env st K' => match look T f with
    | some x => match Nat.ble args.length x.1.ntmps with
      | true => wpcX C P noY (inH C P T d) (1000003 * (s + 1)) x.2.2.1 x.2.2.2 x.2.1 (argE 0 args ++ shE env) st (retX C x.1.results.toList fun x env st => K' x (unE env) st)
      | false => False
    | none => False
def InOK (P : Program) (T : InT) : Prop := ∀ f x, look T f = some x → P.funcs[f]? = some x.1 ∧ x.1.body = some x.2.1 ∧ FnOK P f ∧ (Nat.ble x.1.ntmps 1000000 && codeYOK x.1.ntmps x.2.2.2 x.2.1) = true
theorem InOK.nil {P : Program} : InOK P [] := fun f x h => by simp [look] at h
theorem InOK.cons {P : Program} {T : InT} {f : Nat} {fn : Func} {c : Code} {kp : Kp} {od : Od} (h1 : P.funcs[f]? = some fn) (h2 : fn.body = some c) (h3 : FnOK P f) (h4 : (Nat.ble fn.ntmps 1000000 && codeYOK fn.ntmps od c) = true) (h : InOK P T) : InOK P ((f, fn, c, kp, od) :: T) := fun g x hx => by
  rw [look_cons] at hx
  split at hx
  · rename_i he; subst he; cases hx; exact ⟨h1, h2, h3, h4⟩
  · exact h g x hx

section
variable {C : Ctx} {P : Program} {E : Ent} {N : Nat} {β : K → Nat} {RO : Nat → Prop} {env : Env} {st : St} {a : Act} {w : World}

theorem wr_same {E' : Ent} (h : WR E β RO st w) (h1 : E' = { E with gh := E'.gh, dfs := E'.dfs }) : WR E' β RO st w := by
  rw [h1]
  exact ⟨h.os, h.tape, h.output, h.size, h.keep, h.roLt, h.ro0, h.roNew, h.obj, h.objNew, h.inj, h.sep, h.fzRO, h.stay⟩

theorem res_run {fn : Func} {l : List LV} (hC : C.OK P) (hs : SR E N β RO env st a w) (hl : resL C env st fn.results.toList = some l) : ∃ v, (results fn a.tmps).run P w = .ok v w ∧ VL β RO w (resV l) v := by
  obtain ⟨vs, h1, h2⟩ := resL_run hC hs hl
  have hvl : vs.length = l.length := h2.1.symm
  refine ⟨outV vs, ?_, ?_⟩
  · unfold results
    have h1' : (fn.results.mapM fun x => match x with | .tmp t => pure (a.tmps.getD t undef) | .cell x t => do loadVar t (← asAddr (a.tmps.getD x undef)) : Sem (Array Value)).run P w = .ok vs.toArray w := by
      rw [Array.mapM_eq_mapM_toList, map_eq_pure_bind, Sem.run_bind]
      refine (congrArg (fun r => Result.andThen r _) h1).trans ?_
      rfl
    rw [Sem.run_bind]
    refine (congrArg (fun r => Result.andThen r _) h1').trans ?_
    clear h1 h1' h2 hvl
    match vs with
    | [] => simp [outV]
    | [v] => simp [outV]
    | _ :: _ :: _ => simp [outV]
  · match vs, l, hvl, h2 with
    | [], [], _, h2 => exact .tup [] [] rfl fun i x v h => by simp at h
    | [v], [x], _, h2 => exact h2.2 0 x v rfl rfl
    | v1 :: v2 :: vs, x1 :: x2 :: l, _, h2 => exact .tup _ _ h2.1 h2.2

theorem inH_ok (hC : C.OK P) {T : InT} (hT : InOK P T) : ∀ d, HOK P (inH C P T d)
  | 0 => noH_ok
  | d + 1 => by
    intro E N f s args vals env st K' β RO a w h hv hW
    simp only [inH] at hW
    split at hW
    rotate_left
    · cases hW
    rename_i x hx
    split at hW
    rotate_left
    · cases hW
    rename_i hlen
    have hlen := Nat.le_of_ble_eq_true hlen
    obtain ⟨hf, hb, hfn, hk⟩ := hT f x hx
    simp only [Bool.and_eq_true] at hk
    have hN : x.1.ntmps ≤ 1000000 := by simpa using hk.1
    refine ⟨hfn, ?_⟩
    obtain ⟨E5, hE5⟩ : ∃ E5 : Ent, E5 = { E with gh := fun m => tmpAt E a (m - 1000000), dfs := [] } := ⟨_, rfl⟩
    have hsame : E5 = { E with gh := E5.gh, dfs := E5.dfs } := by rw [hE5]
    have hback : E = { E5 with gh := E.gh, dfs := E.dfs } := by rw [hE5]
    have hgh : ∀ m, E5.gh m = tmpAt E a (m - 1000000) := fun m => by rw [hE5]
    have hvl : vals.length = args.length := hv.1.symm
    have tmpG : ∀ (a0 : Act) (m q : Nat), 1000000 ≤ m → m - 1000000 = q → tmpAt E5 a0 m = tmpAt E a q := fun a0 m q hm hq => by
      conv => lhs; unfold tmpAt
      rw [show Nat.blt m 1000000 = false by rw [Bool.eq_false_iff]; intro hb; rw [Nat.blt_eq] at hb; omega]
      simp only [hgh]
      rw [hq]
    have hs5 : SR E5 x.1.ntmps β RO (argE 0 args ++ shE env) st { tmps := vals.toArray ++ Array.replicate (x.1.ntmps - vals.toArray.size) undef, defers := [] } w := by
      refine ⟨wr_same h.wr hsame, ⟨by simp; omega, hN⟩, by rw [hE5], fun m y hy => ?_⟩
      rcases look_app hy with hy | ⟨_, hy⟩
      · obtain ⟨_, h2⟩ := argE_look hy
        simp only [Nat.sub_zero] at h2
        have hlt : m < vals.length := by rw [hvl]; exact (List.getElem?_eq_some_iff.1 h2).1
        refine ⟨vals[m], ?_, hv.2 m y _ h2 (List.getElem?_eq_getElem hlt)⟩
        rw [tmpAt_lt (by omega), Array.getElem?_append_left (by simpa using hlt)]
        simp [hlt]
      · obtain ⟨q, _, _, g3, g4⟩ := look_selE hy
        obtain ⟨v, g5, g6⟩ := h.env q y g4
        refine ⟨v, ?_, g6⟩
        rw [tmpG _ m q (by omega) (by omega)]; exact g5
    have hI := wpcX_in (r := none) (n := 0) hC noY_ok (inH_ok hC hT d) x.2.1 hk.2 β RO _ st _ w _ hs5 hW
    refine calls_out (r := none) (n := 0) (callsIn_of_wp hf hb trivial (wpIn_mono hI ?_))
    have fin : ∀ {env' : Env} {st' : St} {β' : K → Nat} {RO' : Nat → Prop} {a' : Act} {w' : World}, (match resL C env' st' x.1.results.toList with | some l => K' (resV l) (unE env') st' | none => False) → SR E5 x.1.ntmps β' RO' env' st' a' w' →
        a'.defers = [] ∧ ∃ v, (results x.1 a'.tmps).run P w' = .ok v w' ∧ ∃ v' y env2 st2 β2 RO2, Ending.returned v = .returned v' ∧ K' y env2 st2 ∧ SR E N β2 RO2 env2 st2 a w' ∧ VL β2 RO2 w' y v' := by
      intro env' st' β' RO' a' w' hq hs
      split at hq
      rotate_left
      · cases hq
      rename_i l hl
      obtain ⟨v, h1, h2⟩ := res_run hC hs hl
      refine ⟨by rw [hs.defers, hE5], v, h1, v, resV l, unE env', st', β', RO', rfl, hq, ⟨wr_same hs.wr hback, h.size, h.defers, fun m y hy => ?_⟩, h2⟩
      obtain ⟨q, _, _, g3, g4⟩ := look_selE hy
      obtain ⟨u, g5, g6⟩ := hs.env q y g4
      refine ⟨u, ?_, g6⟩
      rw [tmpG _ q m (by omega) (by omega)] at g5
      exact g5
    rintro e a' w' ⟨env', st', β', RO', hq, hs⟩
    cases e with
    | normal => exact fin hq hs
    | ret => exact fin hq hs
    | _ => exact hq.elim

/-- A function is right where its body is, calls of the listed functions walked through. -/
theorem spec_walk (hC : C.OK P) {f : Nat} {fn : Func} {c : Code} {args : List LV} {out : List Fr} {Post : LV → Fr → Prop} (T : InT) (d : Nat) (kp : Kp) (od : Od) (hT : InOK P T) (hf : P.funcs[f]? = some fn) (hb : fn.body = some c) (hk : (Nat.ble fn.ntmps 1000000 && codeYOK fn.ntmps od c) = true) (hn : Nat.ble args.length fn.ntmps = true) (hfn : FnOK P f)
    (hW : LV.ok.okL args → wpcX C P noY (inH C P T d) 0 kp od c (argE 0 args) ⟨out, []⟩ (retW C fn.results.toList Post)) : SpecP P f args out Post := by
  simp only [Bool.and_eq_true] at hk
  obtain ⟨hq, hk⟩ := hk
  have hq : fn.ntmps ≤ 1000000 := by simpa using hq
  have hn : args.length ≤ fn.ntmps := by simpa using hn
  refine ⟨hfn, fun β RO w vals hw hv => calls_out (r := none) (n := 0) ?_⟩
  have hlen : vals.length = args.length := hv.1.symm
  have hs : SR (entP β RO w) fn.ntmps β RO (argE 0 args) ⟨out, []⟩ { tmps := vals.toArray ++ Array.replicate (fn.ntmps - vals.toArray.size) undef, defers := [] } w := by
    refine ⟨hw, ⟨by simp; omega, hq⟩, rfl, fun n x hx => ?_⟩
    obtain ⟨_, h2⟩ := argE_look hx
    simp only [Nat.sub_zero] at h2
    have hlt : n < vals.length := by rw [hlen]; exact (List.getElem?_eq_some_iff.1 h2).1
    refine ⟨vals[n], ?_, hv.2 n x _ h2 (List.getElem?_eq_getElem hlt)⟩
    rw [tmpAt_lt (by omega), Array.getElem?_append_left (by simpa using hlt)]
    simp [hlt]
  refine callsIn_of_wp hf hb trivial (wpIn_mono (wpcX_in hC noY_ok (inH_ok hC hT d) c hk β RO _ _ _ w _ hs (hW hv.ok)) ?_)
  have fin : ∀ {env : Env} {st : St} {β' : K → Nat} {RO' : Nat → Prop} {a : Act} {w' : World}, (match resL C env st fn.results.toList with | some l => ∃ cs, keepW cs st.cur (Post (resV l)) | none => False) → SR (entP β RO w) fn.ntmps β' RO' env st a w' →
      a.defers = [] ∧ ∃ v, (results fn a.tmps).run P w' = .ok v w' ∧ ∃ v' r ro out' β' RO', Ending.returned v = .returned v' ∧ Post r ro ∧ WR (entP β RO w) β' RO' ⟨out', ro⟩ w' ∧ VL β' RO' w' r v' := by
    intro env st β' RO' a w' hq hs
    split at hq
    rotate_left
    · cases hq
    rename_i l hl
    obtain ⟨cs, hp⟩ := hq
    obtain ⟨cur', hp, hless⟩ := keepW_gives hp
    obtain ⟨v, h1, h2⟩ := res_run hC hs hl
    exact ⟨hs.defers, v, h1, v, resV l, cur', st.out, β', RO', rfl, hp, hs.wr.less (fun k o hk => get_less hless k o hk), h2⟩
  rintro e a w' ⟨env, st, β', RO', hq, hs⟩
  cases e with
  | normal => exact fin hq hs
  | ret => exact fin hq hs
  | _ => exact hq.elim

end
end Go.Fw

/- The value logic, part V1: operations that are run on closed data. -/
namespace Go.Fw
open Go

/-! ### Laying bare costs nothing -/
theorem strV_intro {x : LV} {K' : LV → Prop} (h : K' x) : strL.strV x K' := by cases x <;> exact h
theorem strL_intro : ∀ {l : List LV} {K' : List LV → Prop}, K' l → strL l K'
  | [], _, h => h
  | x :: r, K', h => strV_intro (x := x) (K' := fun x => strL r fun r => K' (x :: r)) (strL_intro (l := r) h)
theorem strW_intro {x : LV} {K' : LV → Prop} (h : K' x) : strW x K' := by
  cases x <;> first | exact h | exact strL_intro h
theorem strE_intro : ∀ {l : List (Nat × LV)} {K' : List (Nat × LV) → Prop}, K' l → strE l K'
  | [], _, h => h
  | (n, x) :: r, K', h => strW_intro (x := x) (K' := fun x => strE r fun r => K' ((n, x) :: r)) (strE_intro (l := r) h)
theorem strO_intro {x : Ob} {K' : Ob → Prop} (h : K' x) : strO x K' := by
  cases x <;> first | exact h | exact strL_intro h
theorem strC_intro : ∀ {l : List (Nat × Ob)} {K' : List (Nat × Ob) → Prop}, K' l → strC l K'
  | [], _, h => h
  | (n, x) :: r, K', h => strO_intro (x := x) (K' := fun x => strC r fun r => K' ((n, x) :: r)) (strC_intro (l := r) h)
theorem strS_intro {st : St} {K' : St → Prop} (h : K' st) : strS st K' := by
  obtain ⟨out, cur⟩ := st
  exact strC_intro (K' := fun cur => K' ⟨out, cur⟩) h
theorem strES_intro {env : Env} {st : St} {K' : Env → St → Prop} (h : K' env st) : strES env st K' := strE_intro (K' := fun env => strS st fun st => K' env st) (strS_intro h)

/-! ### Conditions -/
def okIf {α : Type} (b : Bool) (x : Option α) : Option α := match b with
  | true => x
  | false => none
theorem okIf_some {α : Type} {b : Bool} {x : Option α} {y : α} (h : okIf b x = some y) : b = true ∧ x = some y := by
  cases b with
  | true => exact ⟨rfl, h⟩
  | false => cases h

abbrev Ev := Option (LV × (Env × St))

/-! ### Looking, so that it runs fast -/
noncomputable def lookR {α : Type} (l : List (Nat × α)) (n : Nat) : Option α :=
  List.rec (motive := fun _ => Option α) none (fun p _ ih => Bool.rec ih (some p.2) (Nat.beq p.1 n)) l
theorem lookR_eq {α : Type} : ∀ (l : List (Nat × α)) (n : Nat), lookR l n = look l n
  | [], _ => rfl
  | p :: r, n => by
    have ih := lookR_eq r n
    show Bool.rec (lookR r n) (some p.2) (Nat.beq p.1 n) = look (p :: r) n
    unfold look
    cases Nat.beq p.1 n with
    | true => rfl
    | false => exact ih
noncomputable def opdR (env : Env) (o : Operand) : LV := match o with
  | .tmp t => match Nat.blt t 1000000 with
    | true => match lookR env t with
      | some x => x
      | none => .bad
    | false => .bad
  | o => opd env o
theorem opdR_eq (env : Env) (o : Operand) : opdR env o = opd env o := by
  cases o with
  | tmp t => simp only [opdR, opd, lookR_eq]; rfl
  | _ => rfl
noncomputable def getR (st : St) (k : K) : Option Ob := match k with
  | .cur s => lookR st.cur s
  | k => st.get k
theorem getR_eq (st : St) (k : K) : getR st k = st.get k := by
  cases k with
  | cur s => exact lookR_eq _ _
  | _ => rfl

section
variable {C : Ctx} {P : Program} {env env' : Env} {st st' : St} {x : LV} {K' : LV → Env → St → Prop}

theorem getW_intro {st : St} : ∀ {k : K} {o : Ob} {F : Ob → Prop}, st.get k = some o → F o → getW st k F
  | .cur s, o, F, h, hF => by
    have h' : look st.cur s = some o := h
    simp only [getW, h']; exact hF
  | .fr i s, o, F, h, hF => ⟨o, h, hF⟩
  | .sub k i, o, F, h, hF => by
    obtain ⟨eo, e, sz, rs, es, hg, hi, rfl⟩ := St.get_sub h
    exact getW_intro (k := k) hg ⟨es, hi, hF⟩

def boxE (env : Env) (st : St) (s : Nat) (cs : Option (List LV)) : Ev := match cs with
  | some cs => okIf (freshB env st.cur s) (some (.ptr (.cur s) 0, env, { st with cur := (s, .box cs) :: st.cur }))
  | none => none
theorem boxE_ok {s : Nat} {cs : Option (List LV)} (h : boxE env st s cs = some (x, env', st')) (hK : K' x env' st') : boxW env st s cs K' := by
  unfold boxE at h; unfold boxW
  split at h
  · obtain ⟨hf, h⟩ := okIf_some h
    cases h; simp only [hf]; exact hK
  · cases h

def makeE (C : Ctx) (env : Env) (st : St) (s : Nat) (t : Nat) (l c : LV) : Ev :=
  match C.ty t with
  | some ⟨.slice e, _, _, _⟩ => match C.ty e with
    | some te => match l, c with
      | .t (.v (.int _ n)), .t (.v (.int _ m)) => okIf (decide (n = m) && (decide (0 ≤ n) && (decide (n * te.bytes ≤ 140737488355328) && (decide (n ≤ 140737488355328) && freshB env st.cur s))))
          (some (.osl (.cur s) te.size 0 n.toNat, env, { st with cur := (s, madeOb C e te n.toNat) :: st.cur }))
      | _, _ => none
    | none => none
  | _ => none
theorem makeE_ok {s t : Nat} {l c : LV} (h : makeE C env st s t l c = some (x, env', st')) (hK : K' x env' st') : makeW C env st s t l c K' := by
  unfold makeE at h; unfold makeW
  split at h
  · rename_i e _ _ _ ht
    split at h
    · rename_i te hte
      split at h
      · obtain ⟨hf, h⟩ := okIf_some h
        simp only [Bool.and_eq_true, decide_eq_true_eq] at hf
        cases h
        simp only [ht, hte]
        refine ⟨hf.1, hf.2.1, hf.2.2.1, hf.2.2.2.1, ?_⟩
        simp only [hf.2.2.2.2]; exact hK
      · cases h
    · cases h
  · cases h

/-! ### What is stored comes to the front -/
theorem front_le {st : St} {s : Nat} {o o' : Ob} (h : look st.cur s = some o') : St.le { st with cur := (s, o) :: st.cur } { st with cur := setCur st.cur s o } := fun k p hk => by
  refine get_less (st := { st with cur := setCur st.cur s o }) (cur := (s, o) :: st.cur) (fun n x hx => ?_) k p hk
  rw [look_cons] at hx
  rw [look_setCur]
  by_cases hn : s = n
  · subst hn
    rw [if_pos rfl] at hx
    rw [if_pos rfl, h]; exact hx
  · rw [if_neg hn] at hx
    rw [if_neg (fun he => hn he.symm)]; exact hx
/-- A list laid bare. -/
def forceL {α β : Type} : List α → (List α → β) → β
  | [], k => k []
  | x :: r, k => forceL r fun r => k (x :: r)
theorem forceL_eq {α β : Type} : ∀ (l : List α) (k : List α → β), forceL l k = k l
  | [], _ => rfl
  | x :: r, k => by simp only [forceL, forceL_eq r]

/-! ### Cells as closed data -/
noncomputable def cellsTE : List LV → List T → Env → St → Option (List T × (Env × St))
  | [], acc, env, st => some (acc, env, st)
  | y :: r, acc, env, st => match y with
    | .t x => cellsTE r (acc ++ [x]) env st
    | .osl k sz off len => match k with
      | .cur s => match lookR st.cur s with
        | some (.row _ sz' es) => okIf (Nat.beq sz sz' && Nat.ble (off + len) es.length) (cellsTE r (acc ++ [.sl false sz ((es.drop off).take len)]) (purgeE (.cur s) env) { st with cur := delCur s st.cur })
        | _ => none
      | _ => none
    | _ => none
theorem cellsTE_ok {KT : List T → Env → St → Prop} {ts : List T} : ∀ {cs : List LV} {acc : List T} {env : Env} {st : St}, cellsTE cs acc env st = some (ts, env', st') → KT ts env' st' → cellsTW KT cs acc env st
  | [], acc, env, st, h, hK => by cases h; exact hK
  | y :: r, acc, env, st, h, hK => by
    simp only [cellsTE, lookR_eq] at h
    split at h
    · exact cellsTE_ok (cs := r) h hK
    · rename_i k sz off len
      split at h
      · rename_i s
        split at h
        · rename_i e sz' es hl
          obtain ⟨hf, h⟩ := okIf_some h
          simp only [Bool.and_eq_true] at hf
          simp only [cellsTW, hl, hf.1]
          exact ⟨Nat.le_of_ble_eq_true hf.2, cellsTE_ok (cs := r) h hK⟩
        · cases h
      · cases h
    · cases h

noncomputable def partsE (sz : Nat) : Nat → List (Nat × Operand) → List (List T) → Env → St → Option (List (List T) × (Env × St))
  | _, [], acc, env, st => some (acc, env, st)
  | i, p :: r, acc, env, st => match cellsOf (opdR env p.2) with
    | some cs => okIf (Nat.beq i p.1 && Nat.beq cs.length sz) (match cellsTE cs [] env st with
      | some (ts, env, st) => partsE sz (i + 1) r (acc ++ [ts]) env st
      | none => none)
    | none => none
theorem partsE_ok {KT : List (List T) → Env → St → Prop} {sz : Nat} {ts : List (List T)} : ∀ {parts : List (Nat × Operand)} {i : Nat} {acc : List (List T)} {env : Env} {st : St}, partsE sz i parts acc env st = some (ts, env', st') → KT ts env' st' → partsW 0 sz KT i parts acc env st
  | [], i, acc, env, st, h, hK => by cases h; exact hK
  | p :: r, i, acc, env, st, h, hK => by
    obtain ⟨j, o⟩ := p
    simp only [partsE, opdR_eq] at h
    split at h
    · rename_i cs hcs
      obtain ⟨hf, h⟩ := okIf_some h
      simp only [Bool.and_eq_true] at hf
      split at h
      · rename_i ts1 env1 st1 h1
        simp only [partsW, hf.1, hcs, hf.2]
        exact cellsTE_ok h1 (partsE_ok (parts := r) h hK)
      · cases h
    · cases h

noncomputable def litE (C : Ctx) (env : Env) (st : St) (s : Nat) (t len : Nat) (parts : List (Nat × Operand)) : Ev :=
  match C.ty t with
  | some ⟨.slice e, _, _, _⟩ => match C.ty e with
    | some te => okIf (Nat.beq parts.length len && (Nat.ble (len * te.size) 16777216 && Nat.ble len 16777216)) (match partsE te.size 0 parts [] env st with
      | some (els, env, st) => okIf (freshB env st.cur s) (some (.osl (.cur s) te.size 0 len, env, { st with cur := (s, .row e te.size els) :: st.cur }))
      | none => none)
    | none => none
  | _ => none
theorem litE_ok {s t len : Nat} {parts : List (Nat × Operand)} (h : litE C env st s t len parts = some (x, env', st')) (hK : K' x env' st') : litW C env st s t len parts K' := by
  unfold litE at h; unfold litW
  split at h
  · rename_i e _ _ _ ht
    split at h
    · rename_i te hte
      obtain ⟨hf, h⟩ := okIf_some h
      simp only [Bool.and_eq_true] at hf
      split at h
      · rename_i els env1 st1 h1
        obtain ⟨hf2, h⟩ := okIf_some h
        cases h
        simp only [ht, hte, hf.1, hf.2.1, hf.2.2]
        refine partsE_ok h1 ?_
        simp only [hf2]; exact hK
      · cases h
    · cases h
  · cases h

/-! ### Stores -/
noncomputable def storeE (C : Ctx) (env : Env) (st : St) (t : Nat) (x y : LV) : Option (Env × St) :=
  match C.ty t with
  | none => none
  | some ti => match x with
    | .ptr k c => match k with
      | .cur s => match lookR st.cur s with
        | some (.box cs) => match cellsOf y with
          | some xs => okIf (Nat.beq xs.length ti.size && Nat.ble (c + xs.length) cs.length) (forceL (spl cs c xs) fun l => some (env, { st with cur := (s, .box l) :: st.cur }))
          | none => none
        | _ => none
      | _ => none
    | .pel k sz i j => match k with
      | .cur s => match lookR st.cur s with
        | some (.row _ _ _) => match cellsOf y with
          | some xs => match cellsTE xs [] env st with
            | some (ts, env, st) => match lookR st.cur s with
              | some (.row e sz' es) => match es[i]? with
                | some el => okIf (Nat.beq ts.length ti.size && (Nat.beq sz' sz && Nat.ble (j + ts.length) el.length)) (forceL (es.set i (spl el j ts)) fun l => some (env, { st with cur := (s, .row e sz l) :: st.cur }))
                | none => none
              | _ => none
            | none => none
          | none => none
        | some (.grid (.sl eo) e szi rs) => match y with
          | .osl k2 szr off len => match k2, off with
            | .cur s2, 0 => match lookR st.cur s2 with
              | some (.row e2 szq es) => okIf (Nat.beq sz 1 && (Nat.beq j 0 && (Nat.beq ti.size 1 && (Nat.beq szr szi && (!Nat.beq s2 s && (Nat.beq szq szi && (Nat.beq e2 e && (noMit (.sub (.cur s) i) st.cur && (Nat.beq len es.length && Nat.blt i rs.length)))))))))
                  (some (moveE (.cur s2) (.sub (.cur s) i) env, { st with cur := setCur (absorbC s s2 i st.cur) s (.grid eo e szi (rs.set i (.row es))) }))
              | _ => none
            | _, _ => none
          | _ => none
        | _ => none
      | .sub k q => match k with
        | .cur s => match lookR st.cur s with
          | some (.grid _ _ _ _) => match cellsOf y with
            | some xs => match cellsTE xs [] env st with
              | some (ts, env, st) => match lookR st.cur s with
                | some (.grid eo e szi rs) => match rs[q]? with
                  | some (.row es) => match es[i]? with
                    | some el => okIf (Nat.beq ts.length ti.size && (Nat.beq szi sz && Nat.ble (j + ts.length) el.length)) (forceL (es.set i (spl el j ts)) fun l => forceL (rs.set q (.row l)) fun l => some (env, { st with cur := (s, .grid eo e szi l) :: st.cur }))
                    | none => none
                  | _ => none
                | _ => none
              | none => none
            | none => none
          | _ => none
        | _ => none
      | _ => none
    | _ => none
theorem storeE_ok {t : Nat} {x y : LV} {KS : Env → St → Prop} (h : storeE C env st t x y = some (env', st')) (hK : ∀ t, St.le st' t → KS env' t) : storeW C env st t x y KS := by
  unfold storeE at h; simp only [lookR_eq, forceL_eq] at h; unfold storeW
  split at h
  · cases h
  rename_i ti hti
  split at h
  · rename_i k c
    split at h
    · rename_i s
      split at h
      · rename_i cs hl
        split at h
        · rename_i xs hxs
          obtain ⟨hf, h⟩ := okIf_some h
          simp only [Bool.and_eq_true] at hf
          cases h
          simp only [hti, hl, hxs, hf.1, hf.2]; exact hK _ (front_le hl)
        · cases h
      · cases h
    · cases h
  · rename_i k sz i j
    split at h
    · rename_i s
      split at h
      · rename_i hl
        split at h
        · rename_i xs hxs
          split at h
          · rename_i ts env1 st1 h1
            split at h
            · rename_i e sz' es hl2
              split at h
              · rename_i el hel
                obtain ⟨hf, h⟩ := okIf_some h
                simp only [Bool.and_eq_true] at hf
                cases h
                simp only [hti, hl, hxs]
                refine cellsTE_ok h1 ?_
                simp only [hf.1, hl2, hf.2.1]
                exact ⟨el, hel, Nat.le_of_ble_eq_true hf.2.2, hK _ (front_le hl2)⟩
              · cases h
            · cases h
          · cases h
        · cases h
      · rename_i eo e szi rs hl
        split at h
        · rename_i k2 szr off len
          split at h
          · rename_i s2
            split at h
            · rename_i e2 szq es hl2
              obtain ⟨hf, h⟩ := okIf_some h
              simp only [Bool.and_eq_true, Bool.not_eq_true'] at hf
              obtain ⟨f1, f2, f3, f4, f5, f6, f7, f8, f9, f10⟩ := hf
              cases h
              simp only [hti, hl, f1, f2, f3, f4, f5, hl2, f6, f7, f8]
              exact ⟨Nat.eq_of_beq_eq_true f9, by simpa [Nat.blt_eq] using f10, hK _ fun _ _ h => h⟩
            · cases h
          · cases h
        · cases h
      · cases h
    · rename_i k q
      split at h
      · rename_i s
        split at h
        · rename_i hl
          split at h
          · rename_i xs hxs
            split at h
            · rename_i ts env1 st1 h1
              split at h
              · rename_i eo e szi rs hl2
                split at h
                · rename_i es hq
                  split at h
                  · rename_i el hel
                    obtain ⟨hf, h⟩ := okIf_some h
                    simp only [Bool.and_eq_true] at hf
                    cases h
                    simp only [hti, hl, hxs]
                    refine cellsTE_ok h1 ?_
                    simp only [hf.1, hl2, hf.2.1]
                    exact ⟨es, el, hq, hel, Nat.le_of_ble_eq_true hf.2.2, hK _ (front_le hl2)⟩
                  · cases h
                · cases h
              · cases h
            · cases h
          · cases h
        · cases h
      · cases h
    · cases h
  · cases h

/-! ### Append -/
noncomputable def srcE (st : St) (sz : Nat) (x : LV) : Option (List (List T)) :=
  match x with
  | .t (.sl _ sz' es) => match Nat.beq sz' sz, es with
    | true, es => some es
    | false, [] => some []
    | false, _ :: _ => none
  | .osl k sz' off len => match getR st k with
    | some (.row _ sz2 es) => okIf (Nat.beq sz' sz && (Nat.beq sz2 sz && Nat.ble (off + len) es.length)) (some ((es.drop off).take len))
    | _ => none
  | _ => none
theorem srcE_ok {sz : Nat} {x : LV} {xs : List (List T)} {KS : List (List T) → Prop} (h : srcE st sz x = some xs) (hK : KS xs) : srcW st sz x KS := by
  unfold srcE at h; simp only [getR_eq] at h; unfold srcW
  split at h
  · rename_i n sz' es
    split at h
    · rename_i hb; cases h; simp only [hb]; exact hK
    · rename_i hb; cases h; simp only [hb]; exact hK
    · cases h
  · rename_i k sz' off len
    split at h
    · rename_i e sz2 es hg
      obtain ⟨hf, h⟩ := okIf_some h
      simp only [Bool.and_eq_true] at hf
      cases h
      refine getW_intro hg ?_
      simp only [hf.1, hf.2.1]
      exact ⟨Nat.le_of_ble_eq_true hf.2.2, hK⟩
    · cases h
  · cases h

noncomputable def appE (C : Ctx) (env : Env) (st : St) (s t : Nat) (x y : LV) : Ev :=
  match C.ty t with
  | some ⟨.slice e, _, _, _⟩ => match C.ty e with
    | some te => match te.size with
      | 0 => none
      | sz + 1 => match srcE st (sz + 1) y with
        | some xs => match x with
          | .t (.sl nl _ _) => match nl with
            | true => match xs with
              | [] => some (.t (.sl true 0 []), env, st)
              | z :: r => okIf (Nat.ble ((z :: r).length * te.bytes) 140737488355328 && (Nat.ble (z :: r).length 140737488355328 && freshB env st.cur s)) (some (.osl (.cur s) (sz + 1) 0 (z :: r).length, env, { st with cur := (s, .row e (sz + 1) (z :: r)) :: st.cur }))
            | false => none
          | .osl k sz1 off len => match off with
            | 0 => match getR st k with
              | some (.row e' sz2 es) => okIf (Nat.beq e' e && (Nat.beq sz1 (sz + 1) && (Nat.beq sz2 (sz + 1) && (k.isCur && (Nat.beq len es.length && (Nat.ble ((es ++ xs).length * te.bytes) 140737488355328 && Nat.ble (es ++ xs).length 140737488355328))))))
                  (some (.osl k (sz + 1) 0 (es ++ xs).length, purgeE k env, (st.purge k).set k (.row e (sz + 1) (es ++ xs))))
              | _ => none
            | _ + 1 => none
          | _ => none
        | none => none
    | none => none
  | _ => none
theorem appE_ok {s t : Nat} {y z : LV} (h : appE C env st s t y z = some (x, env', st')) (hK : K' x env' st') : appW C env st s t y z K' := by
  unfold appE at h; simp only [getR_eq] at h; unfold appW
  split at h
  rotate_left
  · cases h
  rename_i e _ _ _ ht
  split at h
  rotate_left
  · cases h
  rename_i te hte
  simp only [ht, hte]
  split at h
  · cases h
  rename_i sz hsz
  simp only [hsz]
  split at h
  rotate_left
  · cases h
  rename_i xs hxs
  refine srcE_ok hxs ?_
  split at h
  · split at h
    · split at h
      · cases h; exact hK
      · obtain ⟨hf, h⟩ := okIf_some h
        simp only [Bool.and_eq_true] at hf
        cases h
        simp only
        refine ⟨Nat.le_of_ble_eq_true hf.1, Nat.le_of_ble_eq_true hf.2.1, ?_⟩
        simp only [hf.2.2]; exact hK
    · cases h
  · split at h
    · split at h
      · rename_i e' sz2 es hg
        obtain ⟨hf, h⟩ := okIf_some h
        simp only [Bool.and_eq_true] at hf
        obtain ⟨f1, f2, f3, f4, f5, f6, f7⟩ := hf
        cases h
        simp only [hg, f1, f2, f3, f4]
        exact ⟨Nat.eq_of_beq_eq_true f5, Nat.le_of_ble_eq_true f6, Nat.le_of_ble_eq_true f7, hK⟩
      · cases h
    · cases h
  · cases h

noncomputable def appTE (C : Ctx) (env : Env) (st : St) (s t : Nat) (x y : LV) : Ev := match x with
  | .osl k sz1 off len => match k with
    | .sub k2 i => match k2, off with
      | .cur q, 0 => match C.ty t with
        | some ⟨.slice e, _, _, _⟩ => match C.ty e with
          | some te => match te.size with
            | 0 => none
            | sz + 1 => match srcE st (sz + 1) y with
              | some xs => match lookR st.cur q with
                | some (.grid eo e' sz2 rs) => match rs[i]? with
                  | some (.row es) => okIf (Nat.beq e' e && (Nat.beq sz1 (sz + 1) && (Nat.beq sz2 (sz + 1) && (freshB env st.cur s && (!Nat.beq s q && (Nat.beq len es.length && (Nat.ble ((es ++ xs).length * te.bytes) 140737488355328 && Nat.ble (es ++ xs).length 140737488355328)))))))
                      (some (.osl (.cur s) (sz + 1) 0 (es ++ xs).length, purgeE (.cur s) (detE C q i env),
                        (St.mk st.out (purgeC (.cur s) ((s, .row e (sz + 1) es) :: setCur (purgeC (.sub (.cur q) i) st.cur) q (.grid eo e (sz + 1) (rs.set i .out))))).set (.cur s) (.row e (sz + 1) (es ++ xs))))
                  | _ => none
                | _ => none
              | none => none
          | none => none
        | _ => none
      | _, _ => none
    | .cur q => match C.slz, off with
      | false, _ => appE C env st s t (.osl (.cur q) sz1 off len) y
      | true, 0 => match C.ty t with
        | some ⟨.slice e, _, _, _⟩ => match C.ty e with
          | some te => match te.size with
            | 0 => none
            | sz + 1 => match srcE st (sz + 1) y with
              | some xs => match lookR st.cur q with
                | some (.row e' sz2 es) => okIf (Nat.beq e' e && (Nat.beq sz1 (sz + 1) && (Nat.beq sz2 (sz + 1) && (Nat.ble len es.length && (Nat.ble ((es.take len ++ xs).length * te.bytes) 140737488355328 && Nat.ble (es.take len ++ xs).length 140737488355328)))))
                    (some (.osl (.cur q) (sz + 1) 0 (es.take len ++ xs).length, purgeE (.cur q) env, (st.purge (.cur q)).set (.cur q) (.row e (sz + 1) (es.take len ++ xs))))
                | _ => none
              | none => none
          | none => none
        | _ => none
      | true, _ + 1 => none
    | .fr _ _ => none
  | x => appE C env st s t x y
theorem appTE_ok {s t : Nat} {y z : LV} (h : appTE C env st s t y z = some (x, env', st')) (hK : K' x env' st') : appTW C env st s t y z K' := by
  unfold appTE at h; simp only [lookR_eq] at h; unfold appTW
  split at h
  · rename_i k sz1 off len
    split at h
    · rename_i k2 i
      split at h
      · rename_i q
        simp only
        split at h
        rotate_left
        · cases h
        rename_i e _ _ _ ht
        split at h
        rotate_left
        · cases h
        rename_i te hte
        simp only [ht, hte]
        split at h
        · cases h
        rename_i sz hsz
        simp only [hsz]
        split at h
        rotate_left
        · cases h
        rename_i xs hxs
        refine srcE_ok hxs ?_
        split at h
        rotate_left
        · cases h
        rename_i eo e' sz2 rs hl
        split at h
        rotate_left
        · cases h
        rename_i es hes
        obtain ⟨hf, h⟩ := okIf_some h
        simp only [Bool.and_eq_true, Bool.not_eq_true'] at hf
        obtain ⟨f1, f2, f3, f4, f5, f6, f7, f8⟩ := hf
        cases h
        simp only [hl, f1, f2, f3, f4, f5]
        exact ⟨es, hes, Nat.eq_of_beq_eq_true f6, Nat.le_of_ble_eq_true f7, Nat.le_of_ble_eq_true f8, hK⟩
      · cases h
    · rename_i q
      split at h
      · rename_i off1 _ _ hz
        cases off1 with
        | zero => simp only [hz]; exact appE_ok h hK
        | succ off => exact appE_ok h hK
      · rename_i hz
        simp only [hz]
        split at h
        rotate_left
        · cases h
        rename_i e _ _ _ ht
        split at h
        rotate_left
        · cases h
        rename_i te hte
        simp only [ht, hte]
        split at h
        · cases h
        rename_i sz hsz
        simp only [hsz]
        split at h
        rotate_left
        · cases h
        rename_i xs hxs
        refine srcE_ok hxs ?_
        split at h
        rotate_left
        · cases h
        rename_i e' sz2 es hl
        obtain ⟨hf, h⟩ := okIf_some h
        simp only [Bool.and_eq_true] at hf
        obtain ⟨f1, f2, f3, f4, f5, f6⟩ := hf
        cases h
        simp only [hl, f1, f2, f3]
        exact ⟨Nat.le_of_ble_eq_true f4, Nat.le_of_ble_eq_true f5, Nat.le_of_ble_eq_true f6, hK⟩
      · cases h
    · cases h
  · rename_i hno
    split
    · exact (hno _ _ _ _ rfl).elim
    · exact (hno _ _ _ _ rfl).elim
    · exact appE_ok h hK
end
end Go.Fw

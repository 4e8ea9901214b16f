/- Texts that lead to the law, part 2. -/
import Derived.Test.YtkccfpgnifdgjaaZA
import Derived.MapKept

/- The value logic, part 5: an operation that only reads is right; it looks at its operands and at objects alone. -/
namespace Go.Fw
open Go

section
variable {C : Ctx} {P : Program} (hC : C.OK P) {E : Ent} {N : Nat} {β : K → Nat} {RO : Nat → Prop} {env : Env} {st : St} {a : Act} {w : World}

theorem run_val {s : Sem Value} {u : Value} (h : s.run P w = .ok u w) : (do pure (.value (← s)) : Sem Next).run P w = .ok (.value u) w := by simp [h]

omit hC in
theorem isKey_of {d : TypeDesc} {kd : D} {k : Value} (hd : descOf d = kd) (hk : keyOK kd k = true) : MapKept.IsKey d k := by
  subst hd
  cases d <;> cases k <;> simp_all [descOf, keyOK, MapKept.IsKey]
omit hC in
theorem sameNow_eq {d : TypeDesc} {kd : D} {a b : Value} (hd : descOf d = kd) (ha : keyOK kd a = true) (hb : keyOK kd b = true) : Instr.sameNow d a b = some (sameK a b) ∧ (sameK a b = true → a = b) := by
  subst hd
  cases d <;> cases a <;> cases b <;> simp_all [descOf, keyOK, Instr.sameNow, sameK, MapKept.bytes_beq]

omit hC in
theorem findNow_kv {d : TypeDesc} {kd : D} {k : Value} (hd : descOf d = kd) (hk : keyOK kd k = true) : ∀ (kv : List (Value × T)) (ents : List MapEntry) (i : Nat), ents.length = kv.length → (∀ (i : Nat) (p : Value × T) (m : MapEntry), kv[i]? = some p → ents[i]? = some m → m.key = p.1) → (∀ p ∈ kv, keyOK kd p.1 = true) →
    (Instr.findNow d k ents i = some none ∧ hasKV k kv = false ∧ (∀ z, lookKV k z kv = z) ∧ ∀ x, updKV k x kv = kv ++ [(k, x)]) ∨
    (∃ j p m, Instr.findNow d k ents i = some (some (i + j, m.val)) ∧ kv[j]? = some p ∧ ents[j]? = some m ∧ m.key = k ∧ hasKV k kv = true ∧ (∀ z, lookKV k z kv = p.2) ∧ ∀ x, updKV k x kv = kv.set j (k, x))
  | [], [], i, _, _, _ => .inl ⟨rfl, rfl, fun _ => rfl, fun _ => rfl⟩
  | [], _ :: _, i, hl, _, _ => by simp at hl
  | _ :: _, [], i, hl, _, _ => by simp at hl
  | (k', y) :: r, e :: es, i, hl, hkey, hall => by
    have hke : e.key = k' := hkey 0 (k', y) e rfl rfl
    obtain ⟨h1, h2⟩ := sameNow_eq hd hk (hall (k', y) (List.mem_cons_self ..))
    simp only [] at h1 h2
    cases hs : sameK k k' with
    | true =>
      right
      refine ⟨0, (k', y), e, ?_, rfl, rfl, by rw [hke]; exact (h2 hs).symm, by simp [hasKV, hs], fun z => by simp [lookKV, hs], fun x => by simp [updKV, hs]⟩
      simp only [Instr.findNow, hke, h1, hs, Nat.add_zero]
    | false =>
      have ih := findNow_kv hd hk r es (i + 1) (by simpa using hl) (fun i p m hp hm => hkey (i + 1) p m (by simpa using hp) (by simpa using hm)) fun p hp => hall p (List.mem_cons_of_mem _ hp)
      rcases ih with ⟨g1, g2, g3, g4⟩ | ⟨j, p, m, g1, g2, g3, g4, g5, g6, g7⟩
      · exact .inl ⟨by simp only [Instr.findNow, hke, h1, hs, g1], by simp [hasKV, hs, g2], fun z => by simp [lookKV, hs, g3], fun x => by simp [updKV, hs, g4]⟩
      · refine .inr ⟨j + 1, p, m, ?_, by simpa using g2, by simpa using g3, g4, by simp [hasKV, hs, g5], fun z => by simp [lookKV, hs, g6], fun x => by simp [updKV, hs, g7]⟩
        simp only [Instr.findNow, hke, h1, hs, g1]
        congr 3; omega

theorem findNow_ks {d : TypeDesc} {kd : D} {k : Value} (hd : descOf d = kd) (hk : keyOK kd k = true) : ∀ (ks : List Value) (ents : List MapEntry) (i : Nat), ents.length = ks.length → (∀ (i : Nat) (p : Value) (m : MapEntry), ks[i]? = some p → ents[i]? = some m → m.key = p) → (∀ p ∈ ks, keyOK kd p = true) →
    (Instr.findNow d k ents i = some none ∧ findK k ks = none) ∨
    (∃ j m, Instr.findNow d k ents i = some (some (i + j, m.val)) ∧ ks[j]? = some k ∧ ents[j]? = some m ∧ m.key = k ∧ findK k ks = some j)
  | [], [], i, _, _, _ => .inl ⟨rfl, rfl⟩
  | [], _ :: _, i, hl, _, _ => by simp at hl
  | _ :: _, [], i, hl, _, _ => by simp at hl
  | k' :: r, e :: es, i, hl, hkey, hall => by
    have hke : e.key = k' := hkey 0 k' e rfl rfl
    obtain ⟨h1, h2⟩ := sameNow_eq hd hk (hall k' (List.mem_cons_self ..))
    cases hs : sameK k k' with
    | true =>
      right
      have := h2 hs
      refine ⟨0, e, ?_, by simp [this], rfl, by rw [hke]; exact this.symm, by simp [findK, hs]⟩
      simp only [Instr.findNow, hke, h1, hs, Nat.add_zero]
    | false =>
      have ih := findNow_ks hd hk r es (i + 1) (by simpa using hl) (fun i p m hp hm => hkey (i + 1) p m (by simpa using hp) (by simpa using hm)) fun p hp => hall p (List.mem_cons_of_mem _ hp)
      rcases ih with ⟨g1, g2⟩ | ⟨j, m, g1, g2, g3, g4, g5⟩
      · exact .inl ⟨by simp only [Instr.findNow, hke, h1, hs, g1], by simp [findK, hs, g2]⟩
      · refine .inr ⟨j + 1, m, ?_, by simpa using g2, by simpa using g3, g4, by simp [findK, hs, g5]⟩
        simp only [Instr.findNow, hke, h1, hs, g1]
        congr 3; omega

include hC in
theorem run_map_ty {t kt et s b : Nat} {z : List Value} (h : C.ty t = some ⟨.map kt et, s, b, z⟩) : P.underlying t = some (.map kt et) := by
  obtain ⟨d, hd, h2⟩ := (hC.ty h).underlying
  cases d <;> simp [descOf] at h2
  obtain ⟨rfl, rfl⟩ := h2; exact hd

include hC in
theorem run_zero_ty {t : Nat} {te : TI} {z : Value} (h : C.ty t = some te) (ha : te.d.agg = false) (hz : te.zero = [z]) : (zeroValue t).run P w = .ok z w ∧ z.oneCell' = true := by
  have hna := (hC.ty h).na
  obtain ⟨j, zz, hj, _, _, hzz, hzc⟩ := (hC.ty h).info
  have hone := (hC.ty h).one
  simp only [hj, Option.bind_some, hzz, Option.map_some, Option.some.injEq, ha] at hna
  have : zz = z := by
    rw [hz] at hzc
    cases zz <;> simp_all [isAggV, Value.cells]
  subst this
  simp only [hz, List.all_cons, List.all_nil, Bool.and_true, Bool.and_eq_true] at hone
  exact ⟨by simp [zeroValue, typeInfo, hj, hzz], hone.1⟩

include hC in
theorem lookup_sound {t : Nat} {x k r : LV} {v vk : Value} {ok : Bool} (hw : WR E β RO st w) (hx : VL β RO w x v) (hk : VL β RO w k vk) (h : lookupL C st t x k ok = some r) :
    ∃ u, (Instr.lookup t v vk ok).run P w = .ok u w ∧ VL β RO w r u := by
  unfold lookupL at h
  split at h
  · rename_i kt et s b z0 ht
    have hu := run_map_ty hC ht
    split at h
    · rename_i tk te htk hte
      split at h
      · rename_i z hag hz
        obtain ⟨hzero, hz1⟩ := run_zero_ty (w := w) hC hte hag hz
        obtain ⟨d, hd, hdd⟩ := (hC.ty htk).underlying
        split at h
        · rename_i m kv
          split at h
          · rename_i kd l hm
            have hvk := hk.v_inv
            subst hvk
            cases hx
            obtain ⟨ents, clock, h1, h2, h3, h4, _⟩ := hw.obj m _ hm
            have fin : decide (kd = tk.d) = true → keyOK kd vk = true → ∀ ok, ∃ u, (Instr.lookup t (.map (some (β m))) vk ok).run P w = .ok u w ∧ VL β RO w (if ok then .tup [.t (lookKV vk (ofV z) l), .bool (hasKV vk l)] else .t (lookKV vk (ofV z) l)) u := by
              intro g1 g2 ok
              have g1 : kd = tk.d := by simpa using g1
              subst g1
              have hf := findNow_kv hdd g2 l ents.toList 0 (by simpa using h2) (fun i p m hp hm => (h4 i p m hp (by simpa using hm)).1) h3
              have hck : (Instr.checkKey ents.isEmpty 10000 kt vk).run P w = .ok () w := MapKept.run_checkKey hd (isKey_of hdd g2) _ 9999
              have pair : ∀ {y : T} {u : Value} {bb : Bool}, VT RO w y u → VL β RO w (if ok then .tup [.t y, .bool bb] else .t y) (if ok then .tuple #[u, .bool bb] else u) := by
                intro y u bb hy
                cases ok
                · exact .t _ _ hy
                · refine .tup _ [u, .bool bb] rfl fun i x v hx hv => ?_
                  match i with
                  | 0 => simp at hx hv; subst hx; subst hv; exact .t _ _ hy
                  | 1 => simp at hx hv; subst hx; subst hv; exact .t _ _ (.v _ rfl)
                  | i + 2 => simp at hx
              rcases hf with ⟨f1, f2, f3, _⟩ | ⟨j, p, mm, f1, f2, f3, f4, f5, f6, _⟩
              · refine ⟨if ok then .tuple #[z, .bool false] else z, ?_, ?_⟩
                · simp only [Instr.lookup, Sem.run_bind, run_underlying hu, Result.andThen_ok, MapKept.run_getObj_map h1, Sem.run_pure, hck, MapKept.run_findKey hd f1, hzero]

                · rw [f2, f3]; exact pair (.ofV z hz1)
              · refine ⟨if ok then .tuple #[mm.val, .bool true] else mm.val, ?_, ?_⟩
                · simp only [Instr.lookup, Sem.run_bind, run_underlying hu, Result.andThen_ok, MapKept.run_getObj_map h1, Sem.run_pure, hck, MapKept.run_findKey hd f1]

                · rw [f5, f6]; exact pair (h4 j p mm f2 (by simpa using f3)).2
            split at h
            · rename_i g1 g2
              cases h
              exact fin g1 g2 false
            · rename_i g1 g2
              cases h
              exact fin g1 g2 true
            · cases h
          · rename_i kd ks ee sz rs hm
            split at h
            rotate_left
            · cases h
            rename_i y bb g1 g2 g0 hy
            have hvk := hk.v_inv
            subst hvk
            cases hx
            obtain ⟨ents, clock, h1, h2, hl, h3, h4, h5, _⟩ := hw.obj m _ hm
            have g1 : kd = tk.d := by simpa using g1
            subst g1
            have hzz : z = .slice none 0 0 := by
              unfold isNilV at g0; split at g0
              · rfl
              · cases g0
            subst hzz
            have hf := findNow_ks hdd g2 ks ents.toList 0 (by simpa using h2.trans hl.symm) (fun i p m hp hm => h4 i p m hp (by simpa using hm)) h3
            have hck : (Instr.checkKey ents.isEmpty 10000 kt vk).run P w = .ok () w := MapKept.run_checkKey hd (isKey_of hdd g2) _ 9999
            have pair : ∀ {y r : LV} {u : Value} {bb : Bool}, VL β RO w y u → (match (generalizing := false) ok with | false => some y | true => some (.tup [y, .bool bb])) = some r → VL β RO w r (if ok then .tuple #[u, .bool bb] else u) := by
              intro y r u bb hy hr
              cases ok
              · cases hr; exact hy
              · cases hr
                refine .tup _ [u, .bool bb] rfl fun i x v hx hv => ?_
                match i with
                | 0 => simp at hx hv; subst hx; subst hv; exact hy
                | 1 => simp at hx hv; subst hx; subst hv; exact .t _ _ (.v _ rfl)
                | i + 2 => simp at hx
            rcases hf with ⟨f1, f2⟩ | ⟨j, mm, f1, f2, f3, f4, f5⟩
            · rw [f2] at hy
              cases hy
              refine ⟨if ok then .tuple #[.slice none 0 0, .bool false] else .slice none 0 0, ?_, pair (.t _ _ (.nil 0)) h⟩
              simp only [Instr.lookup, Sem.run_bind, run_underlying hu, Result.andThen_ok, MapKept.run_getObj_map h1, Sem.run_pure, hck, MapKept.run_findKey hd f1, hzero]
            · rw [f5] at hy
              unfold rowAt at hy
              have hrun : (Instr.lookup t (.map (some (β m))) vk ok).run P w = .ok (if ok then .tuple #[mm.val, .bool true] else mm.val) w := by
                simp only [Instr.lookup, Sem.run_bind, run_underlying hu, Result.andThen_ok, MapKept.run_getObj_map h1, Sem.run_pure, hck, MapKept.run_findKey hd f1]
              simp only at hy
              split at hy
              · rename_i hr
                cases hy
                have hv := h5 j _ mm hr (by simpa using f3)
                exact ⟨_, hrun, pair (by rw [hv]; exact .t _ _ (.nil 0)) h⟩
              · rename_i es hr
                cases hy
                have hv := h5 j _ mm hr (by simpa using f3)
                exact ⟨_, hrun, pair hv h⟩
              · cases hy
          · cases h
        · cases h
      · cases h
    · cases h
  · cases h

include hC
omit hC in
theorem numsOf_get : ∀ {es : List (List T)} {ns : List Int}, numsOf es = some ns → ns.length = es.length ∧ ∀ (i : Nat) (n : Int), ns[i]? = some n → es[i]? = some [.v (.int .u8 n)]
  | [], ns, h => by simp only [numsOf, Option.some.injEq] at h; subst h; exact ⟨rfl, fun i n h => by simp at h⟩
  | e :: r, ns, h => by
    unfold numsOf at h
    split at h
    · rename_i heq; cases heq
    · rename_i n0 r' heq
      cases heq
      split at h
      · rename_i l hl
        cases h
        obtain ⟨h1, h2⟩ := numsOf_get hl
        refine ⟨by simp [h1], fun i n hi => ?_⟩
        cases i with
        | zero => simp at hi; subst hi; rfl
        | succ i => simpa using h2 i n (by simpa using hi)
      · cases h
    · cases h
theorem bytes_sound {x : LV} {v : Value} {es : List (List T)} {ns : List Int} {src dst : Nat} (hw : WR E β RO st w) (hx : VL β RO w x v) (he : bytesEs st x = some es) (hn : numsOf es = some ns) (hb : isBts C src dst = true) :
    (convert src dst v).run P w = .ok (.string (strOfNums ns)) w := by
  unfold isBts at hb
  split at hb
  rotate_left
  · cases hb
  rename_i e s1 b1 z1 s2 b2 z2 hts htd
  split at hb
  rotate_left
  · cases hb
  rename_i s3 b3 z3 hte
  have us := run_slice_ty hC hts
  have ud := run_str_ty hC htd
  have ue := run_int_ty hC hte
  obtain ⟨hl, hg⟩ := numsOf_get hn
  have main : ∀ (b off cap : Nat), (∀ (i : Nat) (n : Int), ns[i]? = some n → w.cell? ⟨b, off + i, none⟩ = some (.int .u8 n)) → (convert src dst (.slice (some ⟨b, off, none⟩) es.length cap)).run P w = .ok (.string (strOfNums ns)) w := by
    intro b off cap hc
    refine run_convert_bytes_arg w src e us ue b off es.length cap ns hl (fun i hi => ?_) dst ud
    have hi' : i < ns.length := by omega
    rw [hc i ns[i] (List.getElem?_eq_getElem hi')]
    simp [List.getD, List.getElem?_eq_getElem hi']
  unfold bytesEs at he
  split at he
  · rename_i nl sz es'
    split at he
    · cases he
      simp only [numsOf, Option.some.injEq] at hn
      subst hn
      cases hx with
      | t _ _ hx =>
      cases hx
      exact run_convert_bytes_nil w src e us ue 0 0 dst ud
    split at he
    rotate_left
    · cases he
    rename_i hsz
    have hsz := Nat.eq_of_beq_eq_true hsz
    subst hsz
    cases he
    cases hx with
    | t _ _ hx =>
    cases hx with
    | emp _ aa c hc =>
      simp only [numsOf, Option.some.injEq] at hn
      subst hn
      rw [run_convert_bytes_string w src dst e _ 0 c us ue ud, run_bytesToString w aa 0 c [] (by simp [loadCells, loadCellsFrom])]
      rfl
    | sl _ _ bb off c u hb hc hm hsz hcell hv =>
      refine main bb off c fun i n hi => ?_
      have h1 := hcell i _ 0 _ (hg i n hi) rfl
      have h2 := hv i _ 0 _ (hg i n hi) rfl
      simp only [Nat.mul_one, Nat.add_zero] at h1
      rw [h1]
      generalize u i 0 = q at h2
      cases h2; rfl
  · rename_i k sz off len
    split at he
    rotate_left
    · cases he
    rename_i e0 sz' es' hk
    split at he
    rotate_left
    · cases he
    rename_i h1 h2 h3
    have h1 := Nat.eq_of_beq_eq_true h1
    have h2 := Nat.eq_of_beq_eq_true h2
    have h3 := Nat.le_of_ble_eq_true h3
    subst h1; subst h2
    cases he
    obtain ⟨us', cap', hown, hf⟩ := hw.obj _ _ hk
    cases hx with
    | osl _ _ _ _ cap e n hle hs hn' hm =>
    have hlen : ((es'.drop off).take len).length = len := by simp; omega
    have := main (β k) (off * 1) cap fun i n hi => by
      have hgi := hg i n hi
      rw [List.getElem?_take] at hgi
      split at hgi
      rotate_left
      · cases hgi
      rw [List.getElem?_drop] at hgi
      obtain ⟨u, hu, hv⟩ := row_cell hown hf hgi (j := 0) rfl
      cases hv
      rw [Nat.mul_one] at hu ⊢
      exact hu
    rw [hlen] at this
    exact this
  · cases he
omit hC in
theorem conc_run (hC : C.OK P) {t : Nat} (h : concT C t = true) : ∃ d, P.underlying t = some d ∧ ∀ ms, d ≠ .interface ms := by
  unfold concT at h
  split at h
  · cases h
  · rename_i i hi hno
    obtain ⟨d, h1, h2⟩ := (hC.ty hno).underlying
    refine ⟨d, h1, fun ms he => ?_⟩
    subst he
    obtain ⟨id, is, ib, iz⟩ := i
    simp only [descOf] at h2
    subst h2
    exact hi _ _ _ rfl
  · cases h

theorem pev_sound {o : Oper} {x : LV} (hs : SR E N β RO env st a w) (h : pev C env st o.op = some x) :
    ∃ v, (execOp a.eval o).run P w = .ok (.value v) w ∧ VL β RO w x v := by
  obtain ⟨dst, op, type, pos, after, guard⟩ := o
  simp only at h
  cases op with
  | lookup t m k ok =>
    obtain ⟨z, h1, h2⟩ := lookup_sound hC hs.wr (hs.opd m) (hs.opd k) h
    exact ⟨z, by simp only [execOp]; exact run_val h1, h2⟩
  | move y => simp only [pev, Option.some.injEq] at h; subst h; exact ⟨_, rfl, hs.opd y⟩
  | assign y => simp only [pev, Option.some.injEq] at h; subst h; exact ⟨_, rfl, hs.opd y⟩
  | pick c p q =>
    simp only [pev] at h
    have hc := hs.opd c
    split at h
    · rename_i hcv
      rw [hcv] at hc
      cases h
      exact ⟨_, by simp only [execOp]; simp [hc.v_inv, asBool], hs.opd p⟩
    · rename_i hcv
      rw [hcv] at hc
      cases h
      exact ⟨_, by simp only [execOp]; simp [hc.v_inv, asBool], hs.opd q⟩
    · cases h
  | binOp op t p q yt =>
    obtain ⟨z, h1, h2⟩ := bin_sound hC (o1 := p) (o2 := q) (hs.opd p) (hs.opd q) h
    exact ⟨z, by simp only [execOp]; exact run_val h1, h2⟩
  | makeInterface t p =>
    simp only [pev] at h
    have hp := hs.opd p
    split at h
    · rename_i hc
      cases h
      obtain ⟨d, hd, hn⟩ := conc_run hC hc
      refine ⟨.iface t (a.eval p), ?_, .ifc _ _ _ hp⟩
      simp only [execOp]
      refine run_val ?_
      simp only [Instr.makeInterface, Sem.run_bind, run_underlying hd, Result.andThen_ok]
      cases d <;> first | rfl | exact absurd rfl (hn _)
    · cases h
  | typeAssert p xt t ok =>
    simp only [pev, assertL] at h
    have hp := hs.opd p
    split at h
    · rename_i t' y hc hx
      split at h
      · rename_i ht
        have ht := Nat.eq_of_beq_eq_true ht
        subst ht
        cases h
        rw [hx] at hp
        have inv : ∀ u, VL β RO w (.ifc (.ty t') x) u → ∃ v, u = .iface t' v ∧ VL β RO w x v := fun u hu => by
          cases hu with
          | ifc _ _ v hv => exact ⟨v, rfl, hv⟩
        obtain ⟨v, he, hv⟩ := inv _ hp
        obtain ⟨d, hd, hn⟩ := conc_run hC hc
        refine ⟨v, ?_, hv⟩
        simp only [execOp]
        refine run_val ?_
        simp only [Instr.typeAssert, Sem.run_bind, run_underlying hd, Result.andThen_ok, he]
        cases d <;> first | (simp; done) | exact absurd rfl (hn _)
      · cases h
    · rename_i t' y hc hx
      split at h
      · rename_i ht
        have ht := Nat.eq_of_beq_eq_true ht
        subst ht
        cases h
        rw [hx] at hp
        have inv : ∀ u, VL β RO w (.ifc (.ty t') y) u → ∃ v, u = .iface t' v ∧ VL β RO w y v := fun u hu => by
          cases hu with
          | ifc _ _ v hv => exact ⟨v, rfl, hv⟩
        obtain ⟨v, he, hv⟩ := inv _ hp
        obtain ⟨d, hd, hn⟩ := conc_run hC hc
        refine ⟨.tuple #[v, .bool true], ?_, .tup _ [v, .bool true] rfl fun i x u hx hu => ?_⟩
        · simp only [execOp]
          refine run_val ?_
          simp only [Instr.typeAssert, Sem.run_bind, run_underlying hd, Result.andThen_ok, he]
          cases d <;> first | (simp; done) | exact absurd rfl (hn _)
        · match i with
          | 0 => simp at hx hu; subst hx; subst hu; exact hv
          | 1 => simp at hx hu; subst hx; subst hu; exact .t _ _ (.v _ rfl)
          | i + 2 => simp at hx
      · cases h
    · cases h
  | unOp op t p =>
    simp only [pev] at h
    have hp := hs.opd p
    split at h
    · rename_i b hb
      rw [hb] at hp
      cases h
      exact ⟨.bool (!b), by simp only [execOp]; exact run_val (by simp [hp.v_inv, Op.unary]), .t _ _ (.v _ rfl)⟩
    · rename_i k n hb
      rw [hb] at hp
      split at h
      · rename_i r hr
        cases h
        obtain ⟨rfl, hw⟩ := inR_some hr
        exact ⟨.int k (0 - n), by simp only [execOp]; exact run_val (by simp only [hp.v_inv, Op.unary, Op.intArith]; rw [hw]; rfl), .t _ _ (.v _ rfl)⟩
      · cases h
    · rename_i k n hb
      rw [hb] at hp
      cases h
      exact ⟨_, by simp only [execOp]; exact run_val (by simp only [hp.v_inv, Op.unary, Op.intBits]; rfl), .t _ _ (.v _ rfl)⟩
    · cases h
  | convert src dst p =>
    simp only [pev, convL] at h
    have hp := hs.opd p
    split at h
    · rename_i hb
      split at h
      · rename_i es he
        split at h
        · rename_i ns hn
          cases h
          refine ⟨.string (strOfNums ns), ?_, .t _ _ (.v _ rfl)⟩
          simp only [execOp]
          exact run_val (bytes_sound hC hs.wr hp he hn hb)
        · cases h
      · cases h
    split at h
    · rename_i k s b z kk n hs1 hd1 hn
      rw [hn] at hp
      split at h
      · rename_i r hr
        cases h
        have hr := inRw_some hr
        subst hr
        refine ⟨.int k (k.wrap n), ?_, .t _ _ (.v _ rfl)⟩
        simp only [execOp]
        obtain ⟨d, hd, _⟩ := (hC.ty hs1).underlying
        exact run_val (by simp only [hp.v_inv, convert, Sem.run_bind, run_underlying hd, run_underlying (run_int_ty hC hd1), Result.andThen_ok, Conv.intToInt]; rfl)
      · cases h
    · cases h
  | load t p =>
    obtain ⟨u, h1, h2⟩ := load_sound hC hs.wr (hs.opd p) h
    exact ⟨u, by simp only [execOp]; exact run_val h1, h2⟩
  | fieldAddr s p f =>
    obtain ⟨u, h1, h2⟩ := fieldAddr_sound hC (hs.opd p) h
    exact ⟨u, by simp only [execOp]; exact run_val h1, h2⟩
  | field s p f =>
    obtain ⟨u, h1, h2⟩ := field_sound hC (hs.opd p) h
    exact ⟨u, by simp only [execOp]; exact run_val h1, h2⟩
  | indexAddr t p i =>
    obtain ⟨u, h1, h2⟩ := indexAddr_sound hC (hs.opd p) (hs.opd i) h
    exact ⟨u, by simp only [execOp]; exact run_val h1, h2⟩
  | index t p i =>
    obtain ⟨u, h1, h2⟩ := index_sound hC (hs.opd p) (hs.opd i) h
    exact ⟨u, by simp only [execOp]; exact run_val h1, h2⟩
  | slice t p lo hi mx =>
    cases mx with
    | some m => simp [pev] at h
    | none =>
      simp only [pev] at h
      split at h
      · rename_i l hh hl hhh
        obtain ⟨u, h1, h2⟩ := slice_sound hC (optInt_run hs hl) (optInt_run hs hhh) (hs.opd p) h
        exact ⟨u, by simp only [execOp]; exact run_val h1, h2⟩
      · cases h
  | extract p i =>
    simp only [pev] at h
    have hp := hs.opd p
    split at h
    · rename_i vs hv
      rw [hv] at hp
      cases he : a.eval p <;> rw [he] at hp <;> cases hp
      rename_i us hl hvv
      have hlt : i < vs.length := (List.getElem?_eq_some_iff.1 h).1
      have hg : us[i]? = some (us[i]'(by omega)) := List.getElem?_eq_getElem _
      refine ⟨us[i]'(by omega), ?_, hvv i x _ h hg⟩
      simp only [execOp]
      exact run_val (by simp only [he, Instr.extract]; simp [hg])
    · cases h
  | nilCheck p =>
    simp only [pev] at h
    have hp := hs.opd p
    split at h
    all_goals first
      | (cases h; done)
      | (rename_i hv
         rw [hv] at hp
         cases h
         cases he : a.eval p <;> rw [he] at hp <;> cases hp
         first
           | exact ⟨_, by simp only [execOp, he]; rfl, .ptr _ _⟩
           | exact ⟨_, by simp only [execOp, he]; rfl, .pel _ _ _ _⟩
           | exact ⟨_, by simp only [execOp, he]; rfl, .fn _ _⟩
           | exact ⟨_, by simp only [execOp, he]; rfl, .ipt _ _ _ _ ‹_› ‹_› ‹_›⟩)
  | makeFunc fn first cap =>
    cases fn with
    | func f =>
      simp only [pev] at h
      split at h
      · rename_i hf
        split at h
        · rename_i l hl
          cases h
          have hcap := caps_inv hs hl
          have hf0 : first = #[] := by rw [← Array.toList_inj]; exact hf
          refine ⟨_, ?_, .fn _ _⟩
          simp only [execOp]
          refine run_val ?_
          simp only [Instr.makeFunc, Sem.run_pure, hf0]
          have hc2 : cap.map a.eval = (l.map fun p => Value.pointer (some ⟨β p.1, p.2, none⟩)).toArray := by rw [← Array.toList_inj]; simpa using hcap
          rw [hc2]
          simp
        · cases h
      · rename_i p hf
        split at h
        · rename_i hc
          cases h
          have hf0 : first = #[p] := by rw [← Array.toList_inj]; exact hf
          have hc0 : cap = #[] := by rw [← Array.toList_inj]; exact hc
          refine ⟨.func (.func f) #[a.eval p] #[], ?_, .ifc (.bd f) _ _ (hs.opd p)⟩
          simp only [execOp]
          refine run_val ?_
          simp [Instr.makeFunc, hf0, hc0]
        · cases h
      · cases h
    | _ => simp [pev] at h
  | build t parts =>
    obtain ⟨u, h1, h2⟩ := build_sound hC hs h
    refine ⟨u, ?_, h2⟩
    simp only [execOp]
    exact run_val (by simpa using h1)
  | call c =>
    simp only [pev] at h
    split at h
    · rename_i hcal
      split at h
      · rename_i p t hargs hat
        have e1 : c.args = #[p] := by rw [← Array.toList_inj]; exact hargs
        have e2 : c.argTypes = #[t] := by rw [← Array.toList_inj]; exact hat
        obtain ⟨u, h1, h2⟩ := len_sound hC (ty := type) hs.wr (hs.opd p) h
        refine ⟨u, ?_, h2⟩
        simp only [execOp, resolve, hcal, Sem.run_bind, Sem.run_pure, Result.andThen_ok, invoke, builtin, e1, e2]
        simp [h1]
      · cases h
    · rename_i hcal
      split at h
      · rename_i p q hargs
        have e1 : c.args = #[p, q] := by rw [← Array.toList_inj]; exact hargs
        have hp := hs.opd p
        have hq := hs.opd q
        split at h
        · rename_i n m hn hm
          cases h
          rw [hn] at hp; rw [hm] at hq
          refine ⟨.int .i64 _, ?_, .t _ _ (.v _ rfl)⟩
          simp only [execOp, resolve, hcal, Sem.run_bind, Sem.run_pure, Result.andThen_ok, invoke, builtin, e1]
          simp [hp.v_inv, hq.v_inv, run_min_int2]
        · cases h
      · cases h
    · rename_i hcal
      split at h
      · rename_i p q hargs
        have e1 : c.args = #[p, q] := by rw [← Array.toList_inj]; exact hargs
        have hp := hs.opd p
        have hq := hs.opd q
        split at h
        · rename_i n m hn hm
          cases h
          rw [hn] at hp; rw [hm] at hq
          refine ⟨.int .i64 _, ?_, .t _ _ (.v _ rfl)⟩
          simp only [execOp, resolve, hcal, Sem.run_bind, Sem.run_pure, Result.andThen_ok, invoke, builtin, e1]
          simp [hp.v_inv, hq.v_inv, run_max_int2]
        · cases h
      · cases h
    · cases h
  | _ => cases h

/-! ### What an operation looks at -/
omit hC in
theorem opd_congr {env env' : Env} {x : Operand} (h : ∀ t, x = .tmp t → look env' t = look env t) : opd env' x = opd env x := by
  cases x with
  | tmp t => simp only [opd, h t rfl]
  | _ => rfl

omit hC in
theorem capsOf_congr {env env' : Env} : ∀ {os : List Operand}, (∀ x ∈ os, opd env' x = opd env x) → capsOf env' os = capsOf env os
  | [], _ => rfl
  | o :: r, h => by simp only [capsOf, h o (List.mem_cons_self ..), capsOf_congr fun x hx => h x (List.mem_cons_of_mem _ hx)]

omit hC in
theorem fillL_congr {fs : List (Nat × Nat)} {env env' : Env} : ∀ {ps : List (Nat × Operand)} {cs : List LV}, (∀ p ∈ ps, opd env' p.2 = opd env p.2) → fillL C fs env' cs ps = fillL C fs env cs ps
  | [], _, _ => rfl
  | (i, o) :: r, cs, h => by
    have h1 := h (i, o) (List.mem_cons_self ..)
    have h2 := fun cs => fillL_congr (fs := fs) (cs := cs) fun p hp => h p (List.mem_cons_of_mem (i, o) hp)
    simp only at h1
    simp only [fillL, h1, h2]

omit hC in
theorem pev_congr {env env' : Env} {st : St} {o : Op} (h : ∀ x ∈ o.operands, opd env' x = opd env x) : pev C env' st o = pev C env st o := by
  cases o <;> simp only [Op.operands] at h <;> simp only [pev]
  case move x => rw [h x (by simp)]
  case assign x => rw [h x (by simp)]
  case pick c a b => rw [h c (by simp), h a (by simp), h b (by simp)]
  case binOp op t x y _ => rw [h x (by simp), h y (by simp)]
  case unOp op t x => rw [h x (by simp)]
  case makeInterface t x => rw [h x (by simp)]
  case typeAssert x xt t ok => rw [h x (by simp)]
  case convert s d x => rw [h x (by simp)]
  case load t x => rw [h x (by simp)]
  case fieldAddr s x f => rw [h x (by simp)]
  case field s x f => rw [h x (by simp)]
  case indexAddr t x i => rw [h x (by simp), h i (by simp)]
  case index t x i => rw [h x (by simp), h i (by simp)]
  case extract x i => rw [h x (by simp)]
  case lookup t x k ok => rw [h x (by simp), h k (by simp)]
  case nilCheck x => rw [h x (by simp)]
  case build t ps =>
    unfold buildL
    have hq : ∀ p ∈ ps.toList, opd env' p.2 = opd env p.2 := fun p hp => h p.2 (by simp only [List.mem_toArray, List.mem_map]; exact ⟨p, hp, rfl⟩)
    have e := fun fs cs => fillL_congr (C := C) (fs := fs) (cs := cs) hq
    simp only [e]
  case makeFunc fn first cap =>
    have e := capsOf_congr (env := env) (env' := env') (os := cap.toList) fun x hx => h x (by simp at hx ⊢; exact .inr hx)
    cases fn <;> first
      | rfl
      | (simp only [e]
         match hl : first.toList with
         | [] => rfl
         | [p] => simp only [h p (by simp; exact .inl (by rw [← Array.mem_toList_iff, hl]; simp))]
         | _ :: _ :: _ => rfl)
  case slice t x lo hi mx =>
    have hlo : optInt env' lo = optInt env lo := by
      cases lo with
      | none => rfl
      | some l => simp only [optInt, h l (by simp)]
    have hhi : optInt env' hi = optInt env hi := by
      cases hi with
      | none => rfl
      | some l => simp only [optInt, h l (by simp)]
    have hx := h x (by simp)
    cases mx <;> simp only [hlo, hhi, hx]
  case call c =>
    have ha : ∀ x ∈ c.args.toList, opd env' x = opd env x := fun x hx => h x (by simp only [Call.operands, Array.mem_append]; exact .inr (by simpa using hx))
    split <;> (try rfl) <;> (split <;> (try rfl))
    · rename_i hargs _
      rw [ha _ (by rw [hargs]; simp)]
    · rename_i hargs
      rw [ha _ (by rw [hargs]; simp), ha _ (by rw [hargs]; simp)]
    · rename_i hargs
      rw [ha _ (by rw [hargs]; simp), ha _ (by rw [hargs]; simp)]

/-- The objects are still there, as they were. -/
def St.le (st st' : St) : Prop := ∀ k o, st.get k = some o → st'.get k = some o

omit hC in
theorem loadL_mono {st st' : St} (h : st.le st') {t : Nat} {x r : LV} (hr : loadL C st t x = some r) : loadL C st' t x = some r := by
  have key : ∀ (k : K) (F : Option Ob → Option LV), F none = none → F (st.get k) = some r → F (st'.get k) = some r := by
    intro k F h0 h1
    cases hk : st.get k with
    | none => rw [hk, h0] at h1; cases h1
    | some o => rw [h k o hk]; rw [hk] at h1; exact h1
  unfold loadL at *
  cases hti : C.ty t with
  | none => rw [hti] at hr; cases hr
  | some ti =>
    rw [hti] at hr
    cases x with
    | ptr k c => exact key k (loadPtr ti c) rfl hr
    | pel k sz i j => exact key k (loadPel ti k sz i j) rfl hr
    | _ => exact hr

omit hC in
theorem lookupL_mono {st st' : St} (h : st.le st') {t : Nat} {x k r : LV} {ok : Bool} (hr : lookupL C st t x k ok = some r) : lookupL C st' t x k ok = some r := by
  unfold lookupL at *
  split at hr
  · split at hr
    · split at hr
      · split at hr
        · split at hr
          · rename_i hm
            rw [h _ _ hm]; exact hr
          · rename_i hm
            rw [h _ _ hm]; exact hr
          · cases hr
        · cases hr
      · cases hr
    · cases hr
  · cases hr

omit hC in
theorem lenL_mono {st st' : St} (h : st.le st') {t : Nat} {x r : LV} (hr : lenL C st t x = some r) : lenL C st' t x = some r := by
  unfold lenL at *
  split at hr
  · exact hr
  · exact hr
  · split at hr
    · split at hr
      · rename_i hm
        rw [h _ _ hm]; exact hr
      · rename_i hm
        rw [h _ _ hm]; exact hr
      · cases hr
    · cases hr
  · cases hr
omit hC in
theorem convL_mono {st st' : St} (h : st.le st') {src dst : Nat} {x r : LV} (hr : convL C st src dst x = some r) : convL C st' src dst x = some r := by
  have hb : ∀ es, bytesEs st x = some es → bytesEs st' x = some es := fun es he => by
    unfold bytesEs at *
    split at he
    · exact he
    · split at he
      · rename_i hm
        simp only [h _ _ hm]
        exact he
      · cases he
    · cases he
  unfold convL at *
  split at hr
  · split at hr
    · rename_i es he
      rw [hb es he]; exact hr
    · cases hr
  · exact hr
omit hC in
theorem pev_mono {st st' : St} (h : st.le st') {o : Op} {r : LV} (hr : pev C env st o = some r) : pev C env st' o = some r := by
  cases o with
  | load t x => exact loadL_mono h hr
  | lookup t x k ok => exact lookupL_mono h hr
  | makeFunc fn f c => cases fn <;> exact hr
  | slice t x lo hi mx => cases mx <;> exact hr
  | convert src dst x => exact convL_mono h hr
  | call c =>
    simp only [pev] at hr ⊢
    split at hr
    · split at hr
      · exact lenL_mono h hr
      · cases hr
    · exact hr
    · exact hr
    · cases hr
  | _ => exact hr

end
end Go.Fw

/- The value logic, part 6: how the state and the memory change together. -/
namespace Go.Fw
open Go

def setCur : List (Nat × Ob) → Nat → Ob → List (Nat × Ob)
  | [], _, _ => []
  | (m, x) :: r, n, o => match Nat.beq m n with
    | true => (m, o) :: r
    | false => (m, x) :: setCur r n o

def setFr : List Fr → Nat → Nat → Ob → List Fr
  | [], _, _, _ => []
  | f :: r, 0, s, o => setCur f s o :: r
  | f :: r, i + 1, s, o => f :: setFr r i s o

/-- What may stand in an object of another frame. -/
def lowV : LV → LV
  | .t x => .t x
  | .ipt cs => .ipt cs
  | _ => .bad
def lowL : List LV → List LV
  | [] => []
  | x :: r => lowV x :: lowL r
def lowO : Ob → Ob
  | .box cs => .box (lowL cs)
  | .mit m l => .mit m l
  | o => o
def wk : K → Ob → Ob
  | .fr _ _, .box cs => .box (lowL cs)
  | _, o => o

def St.set (st : St) : K → Ob → St
  | .cur s, o => { st with cur := setCur st.cur s o }
  | .fr i s, o => { st with out := setFr st.out i s (lowO o) }
  | .sub k i, o => match st.get k, o with
    | some (.grid eo e sz rs), .row _ _ es => St.set st k (.grid eo e sz (rs.set i (.row es)))
    | _, _ => st

def K.root : K → Bool
  | .sub _ _ => false
  | _ => true

theorem look_cons {α : Type} (m : Nat) (x : α) (r : List (Nat × α)) (n : Nat) : look ((m, x) :: r) n = if m = n then some x else look r n := by
  simp only [look]
  split
  · rename_i h; simp at h; rw [if_pos h]
  · rename_i h; rw [if_neg (Nat.ne_of_beq_eq_false h)]

theorem look_setCur : ∀ (l : List (Nat × Ob)) (s n : Nat) (o : Ob), look (setCur l s o) n = if n = s then (look l s).map (fun _ => o) else look l n
  | [], s, n, o => by simp [setCur, look]
  | (m, x) :: r, s, n, o => by
    simp only [setCur]
    split
    · rename_i h
      simp at h
      subst h
      rw [look_cons, look_cons, look_cons]
      by_cases hn : n = m
      · subst hn; simp
      · rw [if_neg hn, if_neg (Ne.symm hn), if_neg (Ne.symm hn)]
    · rename_i h
      have h := Nat.ne_of_beq_eq_false h
      rw [look_cons, look_cons, look_cons, look_setCur r s n o]
      by_cases hn : n = s
      · subst hn; simp [h]
      · simp [hn]

theorem setFr_get : ∀ (out : List Fr) (i s : Nat) (o : Ob) (j : Nat), (setFr out i s o)[j]? = if j = i then (out[i]?).map (fun f => setCur f s o) else out[j]?
  | [], i, s, o, j => by simp [setFr]
  | f :: r, 0, s, o, j => by
    cases j with
    | zero => simp [setFr]
    | succ j => simp [setFr]
  | f :: r, i + 1, s, o, j => by
    cases j with
    | zero => simp [setFr]
    | succ j =>
      simp only [setFr, List.getElem?_cons_succ, setFr_get r i s o j, Nat.add_right_cancel_iff]

theorem liftL_low (n : Nat) : ∀ cs, liftL n (lowL cs) = lowL cs
  | [] => rfl
  | x :: r => by
    have := liftL_low n r
    simp only [liftL] at this
    simp only [lowL, liftL, mapV.mapL, this]
    cases x <;> rfl
theorem liftO_low (n : Nat) {i s : Nat} {o : Ob} (h : ∀ m l, o ≠ .mit m l) : liftO n (lowO o) = wk (.fr i s) o := by
  cases o with
  | box cs => exact congrArg Ob.box (liftL_low n cs)
  | mit m l => exact absurd rfl (h m l)
  | _ => rfl

theorem St.get_set_root {st : St} {r : K} (hr : r.root = true) {o o' : Ob} (h : st.get r = some o) (hm : ∀ m l, o' ≠ .mit m l) : ∀ k, k.root = true → (st.set r o').get k = if k = r then some (wk r o') else st.get k := by
  intro k hk
  cases r with
  | cur s =>
    cases k with
    | cur n =>
      simp only [St.get, St.set, look_setCur, K.cur.injEq, wk] at *
      rw [h]; rfl
    | fr i n => simp [St.get, St.set]
    | sub => cases hk
  | fr i s =>
    cases k with
    | cur n => simp [St.get, St.set]
    | fr j n =>
      simp only [St.get, St.set, setFr_get, K.fr.injEq] at *
      by_cases hj : j = i
      · subst hj
        simp only [if_true, true_and]
        cases hf : st.out[j]? with
        | none => rw [hf] at h; cases h
        | some f =>
          rw [hf] at h
          simp only [Option.map_some, look_setCur]
          by_cases hn : n = s
          · subst hn
            simp only [if_true]
            cases hl : look f n with
            | none => simp [hl] at h
            | some o0 => simp only [Option.map_some]; rw [liftO_low (i := j) (s := n) _ hm]
          · simp only [if_neg hn]
      · simp only [hj, false_and, if_false]
    | sub => cases hk
  | sub => cases hr

theorem St.get_sub {st : St} {k : K} {i : Nat} {o : Ob} (h : st.get (.sub k i) = some o) :
    ∃ eo e sz rs es, st.get k = some (.grid eo e sz rs) ∧ rs[i]? = some (.row es) ∧ o = .row e sz es := by
  simp only [St.get] at h
  split at h
  · rename_i eo e sz rs hk
    split at h
    · rename_i es hes
      exact ⟨eo, e, sz, rs, es, hk, hes, (Option.some.inj h).symm⟩
    · cases h
  · cases h

theorem St.root_of_get_grid {st : St} {k : K} {eo : GO} {e sz : Nat} {rs : List GR} (h : st.get k = some (.grid eo e sz rs)) : k.root = true := by
  cases k with
  | sub k i => obtain ⟨_, _, _, _, _, _, _, h3⟩ := St.get_sub h; cases h3
  | _ => rfl

section
variable {E : Ent} {N : Nat} {β : K → Nat} {RO : Nat → Prop} {env : Env} {st : St} {a : Act} {w w' : World}

theorem ownsRow_block {w w' : World} {base e sz n : Nat} {v : Value} {xs : List Value} (h : w.ownsRow base e sz v n xs) (hb : ∀ g, v.ownBlock = some g → w'.heap[g]? = w.heap[g]?) :
    w'.ownsRow base e sz v n xs := by
  refine ⟨h.1, ?_⟩
  rcases h.2 with hn | ⟨g, cap, cur, rfl, hg, hh, r⟩
  · exact .inl hn
  · exact .inr ⟨g, cap, cur, rfl, hg, by rw [hb g rfl]; exact hh, r⟩

/-- How a header of a row of rows stands to what is told of it. -/
def GrV (β : K → Nat) (RO : Nat → Prop) (w : World) (k : K) (sz i : Nat) (r : GR) (u : Value) : Prop := match r with
  | .nil => u = .slice none 0 0
  | .row es => VL β RO w (.osl (.sub k i) sz 0 es.length) u
  | .out => True
/-- A row of rows (or a map of rows) told otherwise, its own block being as it was. -/
theorem ObOK.gridTo {β β' : K → Nat} {RO RO' : Nat → Prop} {w w' : World} {k k' : K} {eo : GO} {e e' sz sz' : Nat} {rs rs' : List GR} (h : ObOK β RO w k (.grid eo e sz rs)) (hb : w'.heap[β' k']? = w.heap[β k]?) (hl : rs'.length = rs.length)
    (hr : ∀ (i : Nat) (r r' : GR) (u : Value), rs[i]? = some r → rs'[i]? = some r' → GrV β RO w k sz i r u → GrV β' RO' w' k' sz' i r' u) : ObOK β' RO' w' k' (.grid eo e' sz' rs') := by
  have old : ∀ {i : Nat} {r' : GR}, rs'[i]? = some r' → ∃ r, rs[i]? = some r := fun {i r'} hi => by
    have := (List.getElem?_eq_some_iff.1 hi).1
    exact ⟨_, List.getElem?_eq_getElem (by omega)⟩
  cases eo with
  | sl eo =>
    obtain ⟨us, cap, ho, hg⟩ := h
    refine ⟨us, cap, ?_, fun i r' u hi hu => ?_⟩
    · refine ⟨by rw [hl]; exact ho.1, ?_⟩
      rcases ho.2 with ⟨h0, _⟩ | ⟨g, cap', cur, hv, h1, hh, h2, h3, h4, h5⟩
      · cases h0
      · cases hv
        exact .inr ⟨β' k', cap, cur, by rw [hl], Nat.zero_le _, by rw [hb]; exact hh, by rw [hl]; exact h2, h3, h4, by rw [hl]; exact h5⟩
    · obtain ⟨r, hri⟩ := old hi
      exact hr i r r' u hri hi (hg i r u hri hu)
  | mp kd ks =>
    obtain ⟨ents, clock, h1, h2, h2', h3, h4, h5, h6⟩ := h
    refine ⟨ents, clock, by rw [hb]; exact h1, h2.trans hl.symm, h2'.trans hl.symm, h3, h4, fun i r' m hi hm => ?_, h6⟩
    obtain ⟨r, hri⟩ := old hi
    exact hr i r r' m.val hri hi (h5 i r m hri hm)

/-- An object stands as it stood. -/
theorem ObOK.keep {β β' : K → Nat} {RO RO' : Nat → Prop} {w w' : World} {k : K} {o : Ob} (h : ObOK β RO w k o) (hro : ∀ b, RO b → RO' b) (hw : ∀ b, RO b → w'.heap[b]? = w.heap[b]?)
    (hk : β' k = β k) (hb : w'.heap[β k]? = w.heap[β k]?)
    (hv : ∀ cs, o = .box cs → ∀ x ∈ cs, ∀ v, VL β RO w x v → VL β' RO' w' x v)
    (hg : ∀ (eo : GO) e sz rs, o = .grid eo e sz rs → ∀ i es, rs[i]? = some (.row es) → β' (.sub k i) = β (.sub k i) ∧ ∀ r, w.shape? (β (.sub k i)) = some r → w'.shape? (β (.sub k i)) = some r)
    (hm : ∀ m left, o = .mit m left → β' m = β m ∧ w'.heap[β m]? = w.heap[β m]?) : ObOK β' RO' w' k o := by
  have hrow : ∀ {e sz n cap : Nat} {us : List Value}, w.ownsRow 0 e sz (.slice (some ⟨β k, 0, none⟩) n cap) n us → w'.ownsRow 0 e sz (.slice (some ⟨β' k, 0, none⟩) n cap) n us := by
    intro e sz n cap us ho
    rw [hk]
    exact ownsRow_block ho fun g hg => by
      simp only [Value.ownBlock, Option.some.injEq] at hg
      rw [← hg]; exact hb
  cases o with
  | row e sz es => obtain ⟨us, cap, ho, hf⟩ := h; exact ⟨us, cap, hrow ho, hf.mono hro hw⟩
  | box cs =>
    obtain ⟨vs, ety, hh, hl, hvv, h1⟩ := h
    refine ⟨vs, ety, by rw [hk, hb]; exact hh, hl, fun i x v hx hvx => hv cs rfl x (List.mem_of_getElem? hx) v (hvv i x v hx hvx), h1⟩
  | grid eo e sz rs =>
    refine h.gridTo (by rw [hk]; exact hb) rfl fun i r r' u hi hi' hv => ?_
    rw [hi] at hi'; cases hi'
    cases r with
    | nil => exact hv
    | out => trivial
    | row es =>
      simp only [GrV] at hv ⊢
      obtain ⟨e1, e2⟩ := hg eo e sz rs rfl i es hi
      cases hv with
      | osl _ _ _ _ cap' e' n' a b c d =>
        rw [← e1]; exact .osl _ _ _ _ cap' e' n' a (by rw [e1]; exact e2 _ b) c d
  | mp kd kv =>
    obtain ⟨ents, clock, h1, h2, hkk, h3, h4⟩ := h
    exact ⟨ents, clock, by rw [hk, hb]; exact h1, h2, hkk, fun i p m hp hm' => ⟨(h3 i p m hp hm').1, (h3 i p m hp hm').2.mono hro hw⟩, h4⟩
  | mit m left =>
    obtain ⟨seen, ents, clock, h1, h2, h3, h4⟩ := h
    obtain ⟨e1, e2⟩ := hm m left rfl
    exact ⟨seen, ents, clock, by rw [hk, hb, e1]; exact h1, by rw [e1, e2]; exact h2, by rw [e1]; exact hro _ h3, h4.mono hro hw⟩

/-- A step of the memory that leaves what it does not write: what is asked of it. -/
structure Step (w w' : World) : Prop where
  os : w'.os = w.os
  tape : w'.tape = w.tape
  output : w'.output = w.output
  size : w.heap.size ≤ w'.heap.size

theorem Step.refl (w : World) : Step w w := ⟨rfl, rfl, rfl, Nat.le_refl _⟩
theorem Step.setRow (w : World) (g : Nat) (cs : Array Value) : Step w (w.setRow g cs) := ⟨rfl, rfl, rfl, by simp [World.setRow]⟩
theorem Step.alloc (w : World) (o : Obj) : Step w (w.alloc o) := ⟨rfl, rfl, rfl, by show w.heap.size ≤ (w.heap.push o).size; simp⟩
theorem Step.drew (w : World) : Step w w.drew := ⟨rfl, rfl, rfl, Nat.le_refl _⟩

/-- One block of the call's own is written: the objects stay where they are. -/
theorem WR.write {g : Nat} {st' : St} (h : WR E β RO st w) (hs : Step w w') (hsz : w'.heap.size = w.heap.size) (hg : ∃ k o, st.get k = some o ∧ E.can k ∧ β k = g)
    (hb : ∀ b, b ≠ g → w'.heap[b]? = w.heap[b]?) (hst : ∀ k o', st'.get k = some o' → (∃ o, st.get k = some o) ∧ ObOK β RO w' k o') : WR E β RO st' w' := by
  obtain ⟨k0, o0, hk0, hc0, rfl⟩ := hg
  have hro : ∀ b, RO b → w'.heap[b]? = w.heap[b]? := fun b hb' => hb b fun e => h.sep k0 o0 hk0 hc0 (e ▸ hb')
  refine ⟨hs.os.trans h.os, hs.tape.trans h.tape, hs.output.trans h.output, Nat.le_trans h.size hs.size, fun b hlt hnw => ?_, fun b hb' => by rw [hsz]; exact h.roLt b hb', h.ro0, h.roNew, fun k o' hk => (hst k o' hk).2,
    fun k o' hk hc => ?_, fun k k' o o' hk hk' hc hc' => ?_, fun k o' hk hc => ?_, fun k o' hk hc => ?_, h.stay⟩
  · rw [hb b fun e => ?_]
    · exact h.keep b hlt hnw
    · rcases h.objNew k0 o0 hk0 hc0 with h1 | h1
      · exact hnw (e ▸ h1)
      · omega
  · obtain ⟨o, ho⟩ := (hst k o' hk).1; exact h.objNew k o ho hc
  · obtain ⟨p, hp⟩ := (hst k o hk).1
    obtain ⟨q, hq⟩ := (hst k' o' hk').1
    exact h.inj k k' p q hp hq hc hc'
  · obtain ⟨o, ho⟩ := (hst k o' hk).1; exact h.sep k o ho hc
  · obtain ⟨o, ho⟩ := (hst k o' hk).1; exact h.fzRO k o ho hc

/-- Shapes stay where a row's cells are written. -/
theorem shape_setRow (w : World) (g : Nat) (cs old : Array Value) (t : Nat) (fr : Nat × Nat) (hg : w.heap[g]? = some (.cells old t fr)) (hs : cs.size = old.size) (b : Nat) : (w.setRow g cs).shape? b = w.shape? b := by
  unfold World.shape?
  by_cases hbg : b = g
  · subst hbg
    rw [setRow_heap w b old cs t fr hg, hg]
    simp [hs]
  · rw [setRow_other w g b cs hbg]

theorem VL.write {g : Nat} (hro : ¬ RO g) (hb : ∀ b, b ≠ g → w'.heap[b]? = w.heap[b]?) (hsh : ∀ b, w'.shape? b = w.shape? b) {x : LV} {v : Value} (h : VL β RO w x v) : VL β RO w' x v :=
  h.mono (fun _ h => h) (fun b hb' => hb b fun e => hro (e ▸ hb')) (fun _ => True) (fun _ _ => ⟨rfl, fun _ h => (hsh _).trans h⟩) fun _ _ => trivial

theorem shape_of_block {w w' : World} {b : Nat} (h : w'.heap[b]? = w.heap[b]?) : w'.shape? b = w.shape? b := by simp [World.shape?, h]
theorem lt_of_shape {w : World} {b : Nat} {r : Nat × Nat} (h : w.shape? b = some r) : b < w.heap.size := by
  rcases Nat.lt_or_ge b w.heap.size with h1 | h1
  · exact h1
  · simp [World.shape?, Array.getElem?_eq_none h1] at h
theorem lt_of_heap {w : World} {b : Nat} {o : Obj} (h : w.heap[b]? = some o) : b < w.heap.size := (Array.getElem?_eq_some_iff.1 h).1

theorem ObOK.lt {k : K} {o : Ob} (h : ObOK β RO w k o) : β k < w.heap.size := by
  cases o with
  | row e sz es => obtain ⟨us, cap, ho, _⟩ := h; exact (ho.lt _ rfl).2
  | box cs => obtain ⟨vs, ety, hh, _⟩ := h; exact lt_of_heap hh
  | grid eo e sz rs => cases eo with
    | sl eo => obtain ⟨us, cap, ho, _⟩ := h; exact (ho.lt _ rfl).2
    | mp kd ks => obtain ⟨ents, clock, h1, _⟩ := h; exact lt_of_heap h1
  | mp kd kv => obtain ⟨ents, clock, h1, _⟩ := h; exact lt_of_heap h1
  | mit m left => obtain ⟨seen, ents, clock, h1, _⟩ := h; exact lt_of_heap h1

/-- A value that does not name 'k0' stands where 'k0' is given another block. -/
theorem VL.upd {k0 : K} {β' : K → Nat} {RO' : Nat → Prop} (hβ : ∀ k, K.under k0 k = false → β' k = β k) (hro : ∀ b, RO b → RO' b) (hroLt : ∀ b, RO b → b < w.heap.size)
    (hb : ∀ b, b < w.heap.size → (RO b ∨ ∃ r, w.shape? b = some r) → w'.heap[b]? = w.heap[b]?) {x : LV} {v : Value} (hx : x.has k0 = false) (h : VL β RO w x v) : VL β' RO' w' x v :=
  h.mono hro (fun b hb' => hb b (hroLt b hb') (.inl hb')) (fun k => K.under k0 k = false) (fun k hk => ⟨hβ k hk, fun r hr => (shape_of_block (hb _ (lt_of_shape hr) (.inr ⟨r, hr⟩))).trans hr⟩) fun k hk => by
    cases hu : K.under k0 k with
    | false => rfl
    | true => rw [LV.has_trans hu hk] at hx; cases hx

/-- An object of the call's own gets a new block. -/
theorem WR.place {r : K} {st' : St} {ob : Ob} (h : WR E β RO st w) (hr : r.root = true) (hnoB : ∀ k cs, k ≠ r → st'.get k = some (.box cs) → LV.has.hasL r cs = false) (hnoM : ∀ k m left, k ≠ r → st'.get k = some (.mit m left) → m ≠ r)
    (hstep : Step w w') (hsz : w.heap.size < w'.heap.size) (hb : ∀ b, b < w.heap.size → w'.heap[b]? = w.heap[b]?)
    (hold : ∀ k o, k ≠ r → st'.get k = some o → st.get k = some o) (hself : ∀ o, st'.get r = some o → o = ob)
    (hob : ObOK (fun k => if k = r then w.heap.size else β k) RO w' r ob) (hmv : r.isFr = true → E.mv r) (hcan : E.can r) :
    WR E (fun k => if k = r then w.heap.size else β k) RO st' w' := by
  have hsubne : ∀ k i, (K.sub k i) ≠ r := by rintro k i rfl; cases hr
  have hunder : ∀ k, K.under r k = false → k ≠ r := by
    rintro k hk rfl; rw [K.under_self] at hk; cases hk
  refine ⟨hstep.os.trans h.os, hstep.tape.trans h.tape, hstep.output.trans h.output, Nat.le_trans h.size hstep.size, fun b hlt hnw => ?_, fun b hb' => Nat.lt_trans (h.roLt b hb') hsz, h.ro0, h.roNew, fun k o hk => ?_, fun k o hk hc => ?_, fun k k' o o' hk hk' hc hc' he => ?_, fun k o hk hc => ?_, fun k o hk hc => ?_, fun k hk hnm => ?_⟩
  · rw [hb b (Nat.lt_of_lt_of_le hlt h.size)]; exact h.keep b hlt hnw
  · by_cases hks : k = r
    · subst hks
      rw [hself o hk]; exact hob
    · have hk0 := hold k o hks hk
      have hok := h.obj k o hk0
      refine hok.keep (fun _ h => h) (fun b hb' => hb b (h.roLt b hb')) (if_neg hks) (hb _ hok.lt) ?_ ?_ ?_
      · intro cs hcs x hx v hv
        refine hv.upd (k0 := r) (fun k hk => if_neg (hunder k hk)) (fun _ h => h) h.roLt (fun b hb' _ => hb b hb') ?_
        exact hasL_mem (hnoB k cs hks (hcs ▸ hk)) x hx
      · intro eo e sz rs ho i es hi
        exact ⟨if_neg (hsubne k i), fun r hr => (shape_of_block (hb _ (lt_of_shape hr))).trans hr⟩
      · intro m left ho
        have hu := hnoM k m left hks (ho ▸ hk)
        rw [ho] at hok
        obtain ⟨seen, ents, clock, _, h2, _⟩ := hok
        exact ⟨if_neg hu, hb _ (lt_of_heap h2)⟩
  · by_cases hks : k = r
    · subst hks; simp only [if_true]; exact .inr h.size
    · simp only [if_neg hks]; exact h.objNew k o (hold k o hks hk) hc
  · by_cases hks : k = r <;> by_cases hks' : k' = r
    · rw [hks, hks']
    · subst hks
      simp only [if_true, if_neg hks'] at he
      have := (h.obj k' o' (hold k' o' hks' hk')).lt
      omega
    · subst hks'
      simp only [if_true, if_neg hks] at he
      have := (h.obj k o (hold k o hks hk)).lt
      omega
    · simp only [if_neg hks, if_neg hks'] at he
      exact h.inj k k' o o' (hold k o hks hk) (hold k' o' hks' hk') hc hc' he
  · by_cases hks : k = r
    · subst hks
      simp only [if_true]
      intro hr
      have := h.roLt _ hr
      omega
    · simp only [if_neg hks]; exact h.sep k o (hold k o hks hk) hc
  · by_cases hks : k = r
    · subst hks; exact absurd hcan hc
    · simp only [if_neg hks]; exact h.fzRO k o (hold k o hks hk) hc
  · by_cases hks : k = r
    · subst hks; exact absurd (hmv hk) hnm
    · simp only [if_neg hks]; exact h.stay k hk hnm

/-- A new object of the call's own. -/
theorem WR.alloc {s : Nat} {ob : Ob} (h : WR E β RO st w) (hno : ∀ k o, st.get k = some o → o.has (.cur s) = false)
    (hstep : Step w w') (hsz : w.heap.size < w'.heap.size) (hb : ∀ b, b < w.heap.size → w'.heap[b]? = w.heap[b]?)
    (hsub : ∀ i o, St.get { st with cur := (s, ob) :: st.cur } (.sub (.cur s) i) ≠ some o)
    (hob : ObOK (fun k => if k = .cur s then w.heap.size else β k) RO w' (.cur s) ob) :
    WR E (fun k => if k = .cur s then w.heap.size else β k) RO { st with cur := (s, ob) :: st.cur } w' := by
  have hget : ∀ k, k.root = true → St.get { st with cur := (s, ob) :: st.cur } k = if k = .cur s then some ob else st.get k := by
    intro k hk
    cases k with
    | cur n => simp only [St.get, look_cons, K.cur.injEq, eq_comm]
    | fr i n => simp [St.get]
    | sub => cases hk
  have hgets : ∀ k i, k ≠ .cur s → St.get { st with cur := (s, ob) :: st.cur } (.sub k i) = st.get (.sub k i) := by
    intro k i hk
    have : St.get { st with cur := (s, ob) :: st.cur } k = st.get k ∨ k.root = false := by
      by_cases hr : k.root = true
      · left; rw [hget k hr, if_neg hk]
      · right; simpa using hr
    rcases this with h1 | h1
    · simp only [St.get, h1]
    · have nos : ∀ (S : St) o, S.get (.sub k i) ≠ some o := by
        intro S o ho
        obtain ⟨_, _, _, _, _, hg, _⟩ := St.get_sub ho
        rw [St.root_of_get_grid hg] at h1; cases h1
      cases h2 : St.get { st with cur := (s, ob) :: st.cur } (.sub k i) with
      | some o => exact absurd h2 (nos _ o)
      | none =>
        cases h3 : st.get (.sub k i) with
        | some o => exact absurd h3 (nos _ o)
        | none => rfl
  have hold : ∀ k o, k ≠ .cur s → St.get { st with cur := (s, ob) :: st.cur } k = some o → st.get k = some o := by
    intro k o hk hg
    cases k with
    | sub k i =>
      by_cases hk2 : k = .cur s
      · subst hk2; exact absurd hg (hsub i o)
      · rw [hgets k i hk2] at hg; exact hg
    | cur n => rw [hget _ rfl, if_neg hk] at hg; exact hg
    | fr i n => rw [hget _ rfl, if_neg hk] at hg; exact hg
  refine h.place rfl (fun k cs hk hg => hno k _ (hold k _ hk hg)) (fun k m left hk hg e => by have := hno k _ (hold k _ hk hg); simp only [Ob.has, e, K.under_self] at this; cases this) hstep hsz hb hold (fun o ho => ?_) hob (fun h => by cases h) (fun h => by cases h)
  rw [hget _ rfl, if_pos rfl] at ho
  exact (Option.some.inj ho).symm

theorem SR.alloc {s : Nat} {ob : Ob} (h : SR E N β RO env st a w) (hno : ∀ k o, st.get k = some o → o.has (.cur s) = false)
    (hne : ∀ n x, look env n = some x → x.has (.cur s) = false)
    (hstep : Step w w') (hsz : w.heap.size < w'.heap.size) (hb : ∀ b, b < w.heap.size → w'.heap[b]? = w.heap[b]?)
    (hsub : ∀ i o, St.get { st with cur := (s, ob) :: st.cur } (.sub (.cur s) i) ≠ some o)
    (hob : ObOK (fun k => if k = .cur s then w.heap.size else β k) RO w' (.cur s) ob) :
    SR E N (fun k => if k = .cur s then w.heap.size else β k) RO env { st with cur := (s, ob) :: st.cur } a w' :=
  ⟨h.wr.alloc hno hstep hsz hb hsub hob, h.size, h.defers, fun n x hx => by
    obtain ⟨v, h1, h2⟩ := h.env n x hx
    exact ⟨v, h1, h2.upd (k0 := .cur s) (fun k hk => if_neg fun e => by subst e; rw [K.under_self] at hk; cases hk) (fun _ h => h) h.wr.roLt (fun b hb' _ => hb b hb') (hne n x hx)⟩⟩

end
end Go.Fw

/- The value logic, part 7: the operations that make memory. -/
namespace Go.Fw
open Go

def site : Option Nat → Nat
  | some d => 8 * d
  | none => 0

def envNo (s : K) : List (Nat × LV) → Bool
  | [] => true
  | (_, x) :: r => match LV.has s x with
    | true => false
    | false => envNo s r
def curNo (s : K) : List (Nat × Ob) → Bool
  | [] => true
  | (_, x) :: r => match Ob.has s x with
    | true => false
    | false => curNo s r
/-- No slot and no object names this site. -/
def freshB (env : List (Nat × LV)) (cur : List (Nat × Ob)) (s : Nat) : Bool :=
  match envNo (.cur s) env with
  | true => curNo (.cur s) cur
  | false => false

theorem envNo_look {s : K} : ∀ {env : List (Nat × LV)}, envNo s env = true → ∀ n x, look env n = some x → x.has s = false
  | [], _, n, x, h => by simp [look] at h
  | (m, y) :: r, h, n, x, hx => by
    simp only [envNo] at h
    split at h
    · cases h
    · rename_i hy
      rw [look_cons] at hx
      split at hx
      · cases hx; exact hy
      · exact envNo_look h n x hx
theorem curNo_look {s : K} : ∀ {cur : List (Nat × Ob)}, curNo s cur = true → ∀ n x, look cur n = some x → x.has s = false
  | [], _, n, x, h => by simp [look] at h
  | (m, y) :: r, h, n, x, hx => by
    simp only [curNo] at h
    split at h
    · cases h
    · rename_i hy
      rw [look_cons] at hx
      split at hx
      · cases hx; exact hy
      · exact curNo_look h n x hx

theorem under_lift (n s : Nat) : ∀ k, K.under (.cur s) (liftK (n + 1) k) = false
  | .cur m => rfl
  | .fr i m => rfl
  | .sub k i => by
    simp only [liftK, K.under, under_lift n s k, Bool.or_false]; rfl
theorem capAny_lift (n s : Nat) : ∀ cap : List (K × Nat), ((mapC (liftK (n + 1)) cap).any fun p => K.under (.cur s) p.1) = false
  | [] => rfl
  | p :: r => by simp only [mapC, List.any_cons, under_lift, capAny_lift n s r, Bool.or_self]
mutual
theorem has_lift (n s : Nat) : ∀ x, (mapV (liftK (n + 1)) x).has (.cur s) = false
  | .bad | .t _ | .ipt _ => rfl
  | .osl k _ _ _ | .ptr k _ | .pel k _ _ _ | .mpr k => under_lift n s k
  | .fn _ cap => capAny_lift n s cap
  | .ifc _ x => has_lift n s x
  | .agg cs | .tup cs => hasL_lift n s cs
theorem hasL_lift (n s : Nat) : ∀ cs, LV.has.hasL (.cur s) (mapV.mapL (liftK (n + 1)) cs) = false
  | [] => rfl
  | x :: r => by simp only [mapV.mapL, LV.has.hasL, has_lift n s x, hasL_lift n s r, Bool.or_self]
end
theorem hasO_lift (n s : Nat) (o : Ob) : (liftO (n + 1) o).has (.cur s) = false := by
  cases o <;> simp only [liftO, mapO, Ob.has] <;> first | exact hasL_lift n s _ | exact under_lift n s _ | rfl

theorem St.fr_has {st : St} {i s n : Nat} {o : Ob} (h : st.get (.fr i n) = some o) : o.has (.cur s) = false := by
  simp only [St.get] at h
  split at h
  · split at h
    · cases h; exact hasO_lift _ _ _
    · cases h
  · cases h

def boxW (env : Env) (st : St) (s : Nat) (cs : Option (List LV)) (K' : LV → Env → St → Prop) : Prop :=
  match cs with
  | some cs => match freshB env st.cur s with
    | true => K' (.ptr (.cur s) 0) env { st with cur := (s, .box cs) :: st.cur }
    | false => False
  | none => False

def zeroT (ti : TI) : List T := ti.zero.map ofV

def madeOb (C : Ctx) (e : Nat) (te : TI) (n : Nat) : Ob :=
  match te.d with
  | .slice e2 => match C.ty e2, te.zero with
    | some t2, [.slice none 0 0] => .grid e e2 t2.size (List.replicate n .nil)
    | _, _ => .row e te.size (List.replicate n (zeroT te))
  | _ => .row e te.size (List.replicate n (zeroT te))

def makeW (C : Ctx) (env : Env) (st : St) (s : Nat) (t : Nat) (l c : LV) (K' : LV → Env → St → Prop) : Prop :=
  match C.ty t with
  | some ⟨.slice e, _, _, _⟩ => match C.ty e with
    | some te => match l, c with
      | .t (.v (.int _ n)), .t (.v (.int _ m)) => n = m ∧ 0 ≤ n ∧ n * te.bytes ≤ 140737488355328 ∧ n ≤ 140737488355328 ∧ match freshB env st.cur s with
        | true => K' (.osl (.cur s) te.size 0 n.toNat) env { st with cur := (s, madeOb C e te n.toNat) :: st.cur }
        | false => False
      | _, _ => False
    | none => False
  | _ => False

section
variable {C : Ctx} {P : Program} (hC : C.OK P) {E : Ent} {N : Nat} {β : K → Nat} {RO : Nat → Prop} {env : Env} {st : St} {a : Act} {w : World}

theorem SR.fresh (_h : SR E N β RO env st a w) {s : Nat} (hf : freshB env st.cur s = true) :
    (∀ k o, st.get k = some o → o.has (.cur s) = false) ∧ ∀ n x, look env n = some x → x.has (.cur s) = false := by
  unfold freshB at hf
  split at hf
  · rename_i he
    refine ⟨fun k o hk => ?_, envNo_look he⟩
    cases k with
    | cur n => exact curNo_look hf n o hk
    | fr i n => exact St.fr_has hk
    | sub k i => obtain ⟨_, _, _, _, _, _, _, rfl⟩ := St.get_sub hk; rfl
  · cases hf

theorem opd_no {k : K} (h : ∀ n x, look env n = some x → x.has k = false) (o : Operand) : (opd env o).has k = false := by
  cases o with
  | tmp t =>
    simp only [opd]
    split
    · split
      · rename_i x hx; exact h t x hx
      · rfl
    · rfl
  | const v => simp only [opd]; split <;> rfl
  | func f => rfl
  | global g => rfl

theorem cellsOf_no {k : K} {x : LV} {cs : List LV} (h : x.has k = false) (hc : cellsOf x = some cs) : ∀ y ∈ cs, y.has k = false := by
  cases x <;> simp only [cellsOf, Option.some.injEq, reduceCtorEq] at hc <;> subst hc
  case agg cs => simp only [LV.has] at h; exact fun y hy => hasL_mem h y hy
  all_goals (intro y hy; simp only [List.mem_singleton] at hy; subst hy; exact h)

/-- What an operation leaves: its value, the slots and the state that are told. -/
def Gives (P : Program) (E : Ent) (N : Nat) (a : Act) (w : World) (s : Sem Value) (K' : LV → Env → St → Prop) : Prop :=
  ∃ v w' x env' st' β' RO', s.run P w = .ok v w' ∧ K' x env' st' ∧ SR E N β' RO' env' st' a w' ∧ VL β' RO' w' x v

theorem alloc_old (w : World) (o : Obj) (b : Nat) (h : b < w.heap.size) : (w.alloc o).heap[b]? = w.heap[b]? := RowKit.Below.heap_alloc w o b h
theorem alloc_size (w : World) (o : Obj) : (w.alloc o).heap.size = w.heap.size + 1 := by show (w.heap.push o).size = _; simp
theorem alloc_new (w : World) (o : Obj) : (w.alloc o).heap[w.heap.size]? = some o := by show (w.heap.push o)[w.heap.size]? = _; simp

theorem box_gives (h : SR E N β RO env st a w) {s t : Nat} {cs : List LV} {vs : List Value} (hf : freshB env st.cur s = true) (hc : CellsOK β RO w cs vs) (hno : ∀ y ∈ cs, y.has (.cur s) = false)
    {K' : LV → Env → St → Prop} (hK : K' (.ptr (.cur s) 0) env { st with cur := (s, .box cs) :: st.cur }) :
    Gives P E N a w (do pure (.pointer (some (← newRow t vs.toArray)))) K' := by
  obtain ⟨h1, h2⟩ := h.fresh hf
  refine ⟨.pointer (some ⟨w.heap.size, 0, none⟩), w.alloc (.cells vs.toArray t), _, _, _, fun k => if k = .cur s then w.heap.size else β k, RO, ?_, hK, ?_, ?_⟩
  · simp [newRow]
  · refine h.alloc h1 h2 (Step.alloc _ _) (by rw [alloc_size]; omega) (alloc_old _ _) ?_ ?_
    · intro i o ho
      obtain ⟨_, _, _, _, _, hg, _⟩ := St.get_sub ho
      simp only [St.get, look_cons, if_true] at hg
      cases hg
    · refine ⟨vs, t, ?_, hc.1, fun i x v hx hv => ?_, hc.2.2⟩
      · simp only [if_true]; exact alloc_new _ _
      · exact (hc.2.1 i x v hx hv).upd (k0 := .cur s) (fun k hk => if_neg fun e => by subst e; rw [K.under_self] at hk; cases hk) (fun _ h => h) h.wr.roLt
          (fun b hb' _ => alloc_old _ _ b hb') (hno x (List.mem_of_getElem? hx))
  · have := VL.ptr (β := fun k => if k = .cur s then w.heap.size else β k) (RO := RO) (w := w.alloc (.cells vs.toArray t)) (.cur s) 0
    simpa using this

theorem boxW_gives (h : SR E N β RO env st a w) {s t : Nat} {x : Operand} {K' : LV → Env → St → Prop} (hW : boxW env st s (cellsOf (opd env x)) K') : Gives P E N a w (Instr.box t (a.eval x)) K' := by
  unfold boxW at hW
  split at hW
  · rename_i cs hcs
    split at hW
    · rename_i hf
      obtain ⟨h1, h2, h3⟩ := (h.opd x).cells_inv hcs
      have hc : CellsOK β RO w cs (a.eval x).cells.toList := ⟨by simpa using h1, fun i y v hy hv => h2 i y v hy (by simpa using hv), h3⟩
      have := box_gives (P := P) (t := t) h hf hc (cellsOf_no (opd_no (h.fresh hf).2 x) hcs) hW
      simpa [Instr.box, newVar] using this
    · cases hW
  · cases hW

include hC
theorem allocW_gives (h : SR E N β RO env st a w) {s t : Nat} {ti : TI} (ht : C.ty t = some ti) {K' : LV → Env → St → Prop} (hW : boxW env st s (some (ti.zero.map fun v => .t (ofV v))) K') :
    Gives P E N a w (Instr.alloc t true (.tuple #[])) K' := by
  unfold boxW at hW
  split at hW
  · rename_i cs hcs
    cases hcs
    split at hW
    · rename_i hf
      obtain ⟨j, z, hj, _, _, hz, hzc⟩ := (hC.ty ht).info
      have hone : ∀ v ∈ ti.zero, v.oneCell' = true := by
        have := (hC.ty ht).one
        simp only [Bool.and_eq_true, List.all_eq_true] at this
        exact this.1
      have := box_gives (P := P) (t := t) h hf (CellsOK.zero hone) (fun y hy => by obtain ⟨v, _, rfl⟩ := List.mem_map.1 hy; rfl) hW
      obtain ⟨v, w', x, env', st', β', RO', h1, h2⟩ := this
      refine ⟨v, w', x, env', st', β', RO', ?_, h2⟩
      rw [← h1]
      have hz' : z.cells = ti.zero.toArray := by rw [← Array.toList_inj]; simpa using hzc
      simp [Instr.alloc, zeroValue, typeInfo, hj, hz, newVar, hz']
    · cases hW
  · cases hW

omit hC in
/-- A new row. -/
theorem row_gives (h : SR E N β RO env st a w) {s e sz n cap : Nat} {es : List (List T)} {us : List Value} {w' : World} (hf : freshB env st.cur s = true) (hst : Step w w') (hsz : w.heap.size < w'.heap.size)
    (hb : ∀ b, b < w.heap.size → w'.heap[b]? = w.heap[b]?) (hown : w'.ownsRow 0 e sz (.slice (some ⟨w.heap.size, 0, none⟩) n cap) n us) (hn : es.length = n) (hfl : Flat RO w sz es us) :
    SR E N (fun k => if k = .cur s then w.heap.size else β k) RO env { st with cur := (s, .row e sz es) :: st.cur } a w' ∧
      VL (fun k => if k = .cur s then w.heap.size else β k) RO w' (.osl (.cur s) sz 0 n) (.slice (some ⟨w.heap.size, 0, none⟩) n cap) := by
  obtain ⟨h1, h2⟩ := h.fresh hf
  subst hn
  refine ⟨h.alloc h1 h2 hst hsz hb ?_ ⟨us, cap, by simpa using hown, hfl.mono (fun _ h => h) fun b hb' => hb b (h.wr.roLt b hb')⟩, ?_⟩
  · intro i o ho
    obtain ⟨_, _, _, _, _, hg, _⟩ := St.get_sub ho
    simp only [St.get, look_cons, if_true] at hg
    cases hg
  · rcases hown.2 with ⟨h0, _⟩ | ⟨g, cap', cur, hv, _, hh, hnc, hcm, hcs, _⟩
    · cases h0
    · cases hv
      have := VL.osl (β := fun k => if k = .cur s then w.heap.size else β k) (RO := RO) (w := w') (.cur s) sz 0 es.length cap e cur.size hnc
        (by simp only [if_true, World.shape?, hh]) (by rw [hcs]; simp) (by omega)
      simpa using this

omit hC in
theorem Flat.replicate {w : World} {sz : Nat} {z : List T} {vs : List Value} (hz : z.length = sz) (hv : vs.length = sz) (h : ∀ (j : Nat) (x : T) (v : Value), z[j]? = some x → vs[j]? = some v → VT RO w x v)
    (n : Nat) : Flat RO w sz (List.replicate n z) (madeCells vs.toArray (n * sz)).toList := by
  refine ⟨by simp [madeCells], fun i e hi => ?_⟩
  have hin : i < n := by have := (List.getElem?_eq_some_iff.1 hi).1; simpa using this
  have he : e = z := by
    rw [List.getElem?_replicate, if_pos hin] at hi; exact (Option.some.inj hi).symm
  subst he
  refine ⟨hz, fun j x hj => ?_⟩
  have hjl : j < sz := hz ▸ (List.getElem?_eq_some_iff.1 hj).1
  have hlt : i * sz + j < n * sz := by
    have := Nat.mul_le_mul_right sz (show i + 1 ≤ n from hin)
    rw [Nat.add_mul] at this; omega
  have hmod : (i * sz + j) % sz = j := by rw [Nat.mul_comm, Nat.mul_add_mod]; exact Nat.mod_eq_of_lt hjl
  refine ⟨vs[j]'(by omega), ?_, h j x _ hj (List.getElem?_eq_getElem _)⟩
  have : (madeCells vs.toArray (n * sz)).toList[i * sz + j]? = some (vs.toArray[(i * sz + j) % vs.toArray.size]!) := by
    simp [madeCells, hlt]
  rw [this]
  congr 1
  have hs : vs.toArray.size = sz := by simpa using hv
  rw [hs, hmod, getElem!_pos vs.toArray j (by omega)]
  simp

theorem madeW_gives (h : SR E N β RO env st a w) {s t : Nat} {l c : Operand} {K' : LV → Env → St → Prop} (hW : makeW C env st s t (opd env l) (opd env c) K') :
    Gives P E N a w (Instr.makeSlice t (a.eval l) (a.eval c)) K' := by
  unfold makeW at hW
  split at hW
  · rename_i e sz b z ht
    have hu := run_slice_ty hC ht
    split at hW
    · rename_i te hte
      split at hW
      · rename_i k n k' m hl hc
        obtain ⟨rfl, h0, hb, hm, hW⟩ := hW
        split at hW
        · rename_i hf
          have e1 := h.opd l
          have e2 := h.opd c
          rw [hl] at e1; rw [hc] at e2
          rw [e1.int_inv, e2.int_inv]
          obtain ⟨q, rfl⟩ := Int.eq_ofNat_of_zero_le h0
          simp only [Int.toNat_natCast] at hW
          obtain ⟨j, zz, hj, hjs, hjb, hz, hzc⟩ := (hC.ty hte).info
          have hone := (hC.ty hte).one
          simp only [Bool.and_eq_true, List.all_eq_true, Nat.beq_eq] at hone
          obtain ⟨hone, hzl⟩ := hone
          have hzl : te.zero.length = te.size := by simpa using hzl
          obtain ⟨w', h1, h2, h3⟩ := run_make_full (P := P) w 0 t e j zz te.size hu hj hz hjs k k' q (by rw [hjb]; have := Int.mul_comm (q : Int) te.bytes; omega) (by unfold maxLen; omega) (Nat.zero_le _)
          have hzc' : zz.cells = te.zero.toArray := by rw [← Array.toList_inj]; simpa using hzc
          rw [hzc'] at h2
          have hst : Step w w' := ⟨h3.os, h3.tape, h3.output, h3.size⟩
          have hsz : w.heap.size < w'.heap.size := (h2.lt _ rfl).2
          have hbk : ∀ b, b < w.heap.size → w'.heap[b]? = w.heap[b]? := fun b hb' => h3.block b hb' (by simp)
          have hrow := row_gives h hf hst hsz hbk h2 (es := List.replicate q (zeroT te)) (by simp) (Flat.replicate (z := zeroT te) (by simp [zeroT, hzl]) hzl (fun j x v hx hv => by
              simp only [zeroT, List.getElem?_map, hv, Option.map_some, Option.some.injEq] at hx
              subst hx
              exact .ofV v (hone v (List.mem_of_getElem? hv))) q)
          unfold madeOb at hW
          split at hW
          · rename_i e2 hd
            split at hW
            · rename_i t2 ht2 hz0
              obtain ⟨g1, g2⟩ := h.fresh hf
              have hsize : te.size = 1 ∧ te.zero = [.slice none 0 0] := ⟨by rw [← hzl, hz0]; rfl, hz0⟩
              refine ⟨_, w', _, _, _, fun k => if k = .cur s then w.heap.size else β k, RO, h1, hW, ?_, by simpa using hrow.2⟩
              refine h.alloc g1 g2 hst hsz hbk ?_ ⟨(madeCells te.zero.toArray (q * te.size)).toList, q, ?_, ?_⟩
              · intro i o ho
                obtain ⟨_, _, _, _, _, hg, hi, _⟩ := St.get_sub ho
                simp only [St.get, look_cons, if_true, Option.some.injEq, Ob.grid.injEq] at hg
                obtain ⟨_, _, _, rfl⟩ := hg
                rw [List.getElem?_replicate] at hi
                split at hi <;> cases hi
              · simpa [hsize.1] using h2
              · intro i r u hi hu2
                rw [List.getElem?_replicate] at hi
                split at hi
                · cases hi
                  simp only
                  rw [hsize.1, hsize.2] at hu2
                  have := toList_madeCells_one (.slice none 0 0) (q * 1)
                  rw [show ([Value.slice none 0 0].toArray : Array Value) = #[.slice none 0 0] from rfl, this, List.getElem?_replicate] at hu2
                  split at hu2
                  · exact (Option.some.inj hu2).symm
                  · cases hu2
                · cases hi
            · exact ⟨_, w', _, _, _, fun k => if k = .cur s then w.heap.size else β k, RO, h1, hW, hrow.1, by simpa using hrow.2⟩
          · exact ⟨_, w', _, _, _, fun k => if k = .cur s then w.heap.size else β k, RO, h1, hW, hrow.1, by simpa using hrow.2⟩
        · cases hW
      · cases hW
    · cases hW
  · cases hW

end
end Go.Fw

/- The value logic, part 8: an own row becomes closed data; literals of slices. -/
namespace Go.Fw
open Go

/-- May two names be one? (Rows of one row of rows are not told apart.) -/
def K.like : K → K → Bool
  | .cur a, .cur b => Nat.beq a b
  | .fr i a, .fr j b => if Nat.beq i j then Nat.beq a b else false
  | .sub k _, .sub l _ => K.like k l
  | _, _ => false
def K.may (s : K) : K → Bool
  | .sub k i => K.like s (.sub k i) || K.may s k
  | k => K.like s k
def LV.mayH (s : K) : LV → Bool
  | .bad | .t _ | .ipt _ => false
  | .osl k _ _ _ | .ptr k _ | .pel k _ _ _ | .mpr k => K.may s k
  | .fn _ cap => cap.any fun p => K.may s p.1
  | .ifc _ x => LV.mayH s x
  | .agg cs => mayL s cs
  | .tup cs => mayL s cs
where mayL (s : K) : List LV → Bool
  | [] => false
  | x :: r => LV.mayH s x || mayL s r
theorem K.like_of : ∀ {a b : K}, K.beq a b = true → K.like a b = true
  | .cur a, .cur b, h => h
  | .fr i a, .fr j b, h => h
  | .sub k i, .sub l j, h => by
    simp only [K.beq] at h
    split at h
    · exact K.like_of (a := k) (b := l) h
    · cases h
  | .cur _, .fr _ _, h | .cur _, .sub _ _, h | .fr _ _, .cur _, h | .fr _ _, .sub _ _, h | .sub _ _, .cur _, h | .sub _ _, .fr _ _, h => by cases h
theorem K.may_of {s : K} : ∀ {k : K}, K.under s k = true → K.may s k = true
  | .sub k i, h => by
    simp only [K.under, Bool.or_eq_true] at h
    simp only [K.may, Bool.or_eq_true]
    exact h.imp K.like_of K.may_of
  | .cur _, h => K.like_of h
  | .fr _ _, h => K.like_of h
mutual
theorem LV.may_of {s : K} : ∀ {x : LV}, LV.has s x = true → LV.mayH s x = true
  | .bad, h | .t _, h | .ipt _, h => by simp [LV.has] at h
  | .osl _ _ _ _, h | .ptr _ _, h | .pel _ _ _ _, h | .mpr _, h => by simp only [LV.has, LV.mayH] at *; exact K.may_of h
  | .fn _ cap, h => by
    simp only [LV.has, LV.mayH, List.any_eq_true] at *
    obtain ⟨p, hp, h⟩ := h
    exact ⟨p, hp, K.may_of h⟩
  | .ifc _ _, h => by simp only [LV.has, LV.mayH] at *; exact LV.may_of h
  | .agg cs, h | .tup cs, h => by simp only [LV.has, LV.mayH] at *; exact mayL_of h
theorem mayL_of {s : K} : ∀ {cs : List LV}, LV.has.hasL s cs = true → LV.mayH.mayL s cs = true
  | [], h => by simp [LV.has.hasL] at h
  | x :: r, h => by
    simp only [LV.has.hasL, LV.mayH.mayL, Bool.or_eq_true] at *
    exact h.imp LV.may_of mayL_of
end
theorem LV.not_has {s : K} {x : LV} (h : x.mayH s = false) : x.has s = false := by
  cases hh : x.has s with
  | false => rfl
  | true => rw [LV.may_of hh] at h; cases h
def purgeV (k : K) (x : LV) : LV := match x.mayH k with
  | true => .bad
  | false => x
def purgeO (k : K) : Ob → Ob
  | .box cs => .box (cs.map (purgeV k))
  | o => o
def purgeE (k : K) : List (Nat × LV) → List (Nat × LV)
  | [] => []
  | (n, x) :: r => (n, purgeV k x) :: purgeE k r
def purgeC (k : K) : List (Nat × Ob) → List (Nat × Ob)
  | [] => []
  | (n, o) :: r => (n, purgeO k o) :: purgeC k r
def delCur (s : Nat) : List (Nat × Ob) → List (Nat × Ob)
  | [] => []
  | (m, x) :: r => match Nat.beq m s with
    | true => delCur s r
    | false => (m, purgeO (.cur s) x) :: delCur s r

/-- The same, but these slots are kept. -/
def purgeK (k : K) (ks : List Nat) : List (Nat × LV) → List (Nat × LV)
  | [] => []
  | (n, x) :: r => (n, match ks.any (Nat.beq n) with
    | true => x
    | false => purgeV k x) :: purgeK k ks r
theorem look_purgeK (k : K) (ks : List Nat) : ∀ (env : List (Nat × LV)) (n : Nat), look (purgeK k ks env) n = (look env n).map fun x => match ks.any (Nat.beq n) with
    | true => x
    | false => purgeV k x
  | [], n => rfl
  | (m, x) :: r, n => by
    simp only [purgeK, look_cons, look_purgeK k ks r n]
    by_cases h : m = n
    · subst h; simp
    · rw [if_neg h, if_neg h]
/-- What named this row names it under its new key. -/
def moveV (k1 k2 : K) (x : LV) : LV := match x with
  | .osl k sz off len => match K.beq k k1 with
    | true => .osl k2 sz off len
    | false => purgeV k2 (purgeV k1 (.osl k sz off len))
  | x => purgeV k2 (purgeV k1 x)
def moveE (k1 k2 : K) : List (Nat × LV) → List (Nat × LV)
  | [] => []
  | (n, x) :: r => (n, moveV k1 k2 x) :: moveE k1 k2 r
theorem look_moveE (k1 k2 : K) : ∀ (env : List (Nat × LV)) (n : Nat), look (moveE k1 k2 env) n = (look env n).map (moveV k1 k2)
  | [], n => rfl
  | (m, x) :: r, n => by
    simp only [moveE, look_cons, look_moveE k1 k2 r n]
    split <;> rfl
theorem moveV_cases (k1 k2 : K) (x : LV) : (∃ sz off len, x = .osl k1 sz off len ∧ moveV k1 k2 x = .osl k2 sz off len) ∨ moveV k1 k2 x = purgeV k2 (purgeV k1 x) := by
  unfold moveV
  split
  · rename_i k sz off len
    cases h : K.beq k k1 with
    | true => have := K.beq_iff.1 h; subst this; exact .inl ⟨sz, off, len, rfl, rfl⟩
    | false => exact .inr rfl
  · exact .inr rfl
theorem look_purgeE (k : K) : ∀ (env : List (Nat × LV)) (n : Nat), look (purgeE k env) n = (look env n).map (purgeV k)
  | [], n => rfl
  | (m, x) :: r, n => by
    simp only [purgeE, look_cons, look_purgeE k r n]
    split <;> rfl
theorem look_purgeC (k : K) : ∀ (cur : List (Nat × Ob)) (n : Nat), look (purgeC k cur) n = (look cur n).map (purgeO k)
  | [], n => rfl
  | (m, x) :: r, n => by
    simp only [purgeC, look_cons, look_purgeC k r n]
    split <;> rfl
theorem look_delCur (s : Nat) : ∀ (cur : List (Nat × Ob)) (n : Nat), look (delCur s cur) n = if n = s then none else (look cur n).map (purgeO (.cur s))
  | [], n => by simp [delCur, look]
  | (m, x) :: r, n => by
    simp only [delCur]
    split
    · rename_i h
      simp at h
      subst h
      rw [look_delCur m r n, look_cons]
      by_cases hn : n = m
      · simp [hn]
      · rw [if_neg hn, if_neg hn, if_neg (Ne.symm hn)]
    · rename_i h
      have h := Nat.ne_of_beq_eq_false h
      rw [look_cons, look_delCur s r n, look_cons]
      by_cases hn : m = n
      · subst hn; simp [h]
      · simp [hn]

theorem purgeV_has {k k' : K} {x : LV} (h : x.has k' = false) : (purgeV k x).has k' = false := by
  unfold purgeV; split
  · rfl
  · exact h
theorem hasL_map_purge {k k' : K} : ∀ {cs : List LV}, LV.has.hasL k' cs = false → LV.has.hasL k' (cs.map (purgeV k)) = false
  | [], _ => rfl
  | x :: r, h => by
    simp only [LV.has.hasL, Bool.or_eq_false_iff, List.map_cons] at *
    exact ⟨purgeV_has h.1, hasL_map_purge h.2⟩
theorem purgeO_has {k k' : K} {o : Ob} (h : o.has k' = false) : (purgeO k o).has k' = false := by
  cases o <;> simp only [purgeO, Ob.has] at * <;> first | exact hasL_map_purge h | exact h | rfl

section
variable {C : Ctx} {P : Program} (hC : C.OK P) {E : Ent} {N : Nat} {β : K → Nat} {RO : Nat → Prop} {env : Env} {st : St} {a : Act} {w : World}

theorem VL.purge {k : K} {x : LV} {v : Value} (h : VL β RO w x v) : VL β RO w (purgeV k x) v := by
  unfold purgeV; split
  · exact .bad v
  · exact h

theorem ObOK.purge {k0 k : K} {o : Ob} (h : ObOK β RO w k o) : ObOK β RO w k (purgeO k0 o) := by
  cases o with
  | box cs =>
    obtain ⟨vs, ety, h1, h2, h3, h4⟩ := h
    refine ⟨vs, ety, h1, by simpa using h2, fun i x v hx hv => ?_, h4⟩
    rw [List.getElem?_map] at hx
    cases hc : cs[i]? with
    | none => simp [hc] at hx
    | some y =>
      simp [hc] at hx
      rw [← hx]; exact (h3 i y v hc hv).purge
  | _ => exact h

/-- The closed data that a part of an own row shows. -/
theorem snap {k : K} {e sz off len : Nat} {es : List (List T)} {v : Value} {RO' : Nat → Prop} (hro : ∀ b, RO b → RO' b) (hk : RO' (β k)) (ho : ObOK β RO w k (.row e sz es)) (hv : VL β RO w (.osl k sz off len) v) (hl : off + len ≤ es.length) :
    VT RO' w (.sl false sz ((es.drop off).take len)) v := by
  obtain ⟨us, cap, hown, hf⟩ := ho
  cases hv with
  | osl _ _ _ _ cap' e' n hle hs hn hm =>
  have hlen : ((es.drop off).take len).length = len := by simp; omega
  by_cases h0 : len = 0
  · subst h0
    simp only [List.take_zero]
    exact .emp _ _ _ (by omega)
  · have key : VT RO' w (.sl false sz ((es.drop off).take len)) (.slice (some ⟨β k, off * sz, none⟩) ((es.drop off).take len).length cap') := by
      have hget : ∀ (i : Nat) (el : List T), ((es.drop off).take len)[i]? = some el → es[off + i]? = some el := by
        intro i el hi
        rw [List.getElem?_take] at hi
        split at hi
        · rw [List.getElem?_drop] at hi; exact hi
        · cases hi
      refine .sl sz _ (β k) (off * sz) cap' (fun i j => (w.cell? ⟨β k, off * sz + (i * sz + j), none⟩).getD undef) (fun _ => hk) (by omega) (by omega) (fun i el hi => (hf.2 _ el (hget i el hi)).1) (fun i el j x hi hj => ?_) fun i el j x hi hj => ?_
      · obtain ⟨u, h1, h2⟩ := row_cell hown hf (hget i el hi) hj
        rw [Nat.add_mul, Nat.add_assoc] at h1
        rw [h1]; rfl
      · obtain ⟨u, h1, h2⟩ := row_cell hown hf (hget i el hi) hj
        rw [Nat.add_mul, Nat.add_assoc] at h1
        rw [h1]; exact h2.mono hro fun _ _ => rfl
    rw [hlen] at key
    exact key

/-- The row is closed data from here on. -/
theorem SR.freeze (h : SR E N β RO env st a w) {s : Nat} {o0 : Ob} (hs : look st.cur s = some o0) :
    SR E N β (fun b => RO b ∨ b = β (.cur s)) (purgeE (.cur s) env) { st with cur := delCur s st.cur } a w := by
  have hrow := h.wr.obj (.cur s) _ hs
  have hget : ∀ k o', St.get { st with cur := delCur s st.cur } k = some o' → ∃ o, st.get k = some o ∧ k ≠ .cur s ∧ (o' = purgeO (.cur s) o ∨ o' = o) := by
    intro k o' hk
    cases k with
    | cur n =>
      simp only [St.get, look_delCur] at hk ⊢
      split at hk
      · cases hk
      · rename_i hn
        cases ho : look st.cur n with
        | none => simp [ho] at hk
        | some o => simp [ho] at hk; exact ⟨o, rfl, fun e => hn (by cases e; rfl), .inl hk.symm⟩
    | fr j n => exact ⟨o', hk, (fun e => by cases e), .inr rfl⟩
    | sub k i =>
      obtain ⟨eo, e2, sz2, rs, es2, hg, hi, rfl⟩ := St.get_sub hk
      cases k with
      | cur n =>
        simp only [St.get, look_delCur] at hg
        split at hg
        · cases hg
        · cases ho : look st.cur n with
          | none => simp [ho] at hg
          | some o =>
            simp [ho] at hg
            cases o <;> simp only [purgeO, reduceCtorEq] at hg
            cases hg
            exact ⟨_, by simp only [St.get, ho, hi], (fun e => by cases e), .inr rfl⟩
      | fr j n => exact ⟨_, by have hg' : st.get (.fr j n) = _ := hg; simp only [St.get] at hg' ⊢; simp only [hg', hi], (fun e => by cases e), .inr rfl⟩
      | sub k2 j => have := St.root_of_get_grid hg; cases this
  have hmono : ∀ k o, st.get k = some o → ObOK β (fun b => RO b ∨ b = β (.cur s)) w k o := fun k o hk =>
    (h.wr.obj k o hk).keep (fun b hb => .inl hb) (fun _ _ => rfl) rfl rfl (fun cs _ x _ v hv => hv.mono (fun b hb => .inl hb) (fun _ _ => rfl) (fun _ => True) (fun _ _ => ⟨rfl, fun _ h => h⟩) fun _ _ => trivial)
      (fun _ _ _ _ _ _ _ _ => ⟨rfl, fun _ h => h⟩) fun _ _ _ => ⟨rfl, rfl⟩
  refine ⟨⟨h.wr.os, h.wr.tape, h.wr.output, h.wr.size, h.wr.keep, fun b hb => ?_, fun b hb => .inl (h.wr.ro0 b hb), fun b hb => ?_, fun k o' hk => ?_, fun k o' hk hc => ?_, fun k k' o o' hk hk' hc hc' he => ?_, fun k o' hk hc => ?_, fun k o' hk hc => ?_, h.wr.stay⟩, h.size, h.defers, fun n x hx => ?_⟩
  · rcases hb with hb | rfl
    · exact h.wr.roLt b hb
    · exact hrow.lt
  · rcases hb with hb | rfl
    · exact h.wr.roNew b hb
    · exact (h.wr.objNew (.cur s) _ hs fun h => by cases h).elim (fun h => .inr (.inr h)) fun h => .inr (.inl h)
  · obtain ⟨o, ho, _, h1 | h1⟩ := hget k o' hk
    · rw [h1]; exact (hmono k o ho).purge
    · rw [h1]; exact hmono k o ho
  · obtain ⟨o, ho, _⟩ := hget k o' hk; exact h.wr.objNew k o ho hc
  · obtain ⟨p, hp, _⟩ := hget k o hk
    obtain ⟨q, hq, _⟩ := hget k' o' hk'
    exact h.wr.inj k k' p q hp hq hc hc' he
  · obtain ⟨o, ho, hne, _⟩ := hget k o' hk
    rintro (hb | hb)
    · exact h.wr.sep k o ho hc hb
    · exact hne (h.wr.inj k (.cur s) o _ ho hs hc (fun h => by cases h) hb)
  · obtain ⟨o, ho, hne, _⟩ := hget k o' hk
    exact .inl (h.wr.fzRO k o ho hc)
  · rw [look_purgeE] at hx
    cases hy : look env n with
    | none => simp [hy] at hx
    | some y =>
      simp [hy] at hx
      obtain ⟨v, h1, h2⟩ := h.env n y hy
      exact ⟨v, h1, by rw [← hx]; exact (h2.mono (fun b hb => .inl hb) (fun _ _ => rfl) (fun _ => True) (fun _ _ => ⟨rfl, fun _ h => h⟩) fun _ _ => trivial).purge⟩

/-- Cells as closed data; own rows among them are frozen. -/
def cellsTW (K' : List T → Env → St → Prop) : List LV → List T → Env → St → Prop
  | [], acc, env, st => K' acc env st
  | .t x :: r, acc, env, st => cellsTW K' r (acc ++ [x]) env st
  | .osl (.cur s) sz off len :: r, acc, env, st => match look st.cur s with
    | some (.row _ sz' es) => match Nat.beq sz sz' with
      | true => off + len ≤ es.length ∧ cellsTW K' r (acc ++ [.sl false sz ((es.drop off).take len)]) (purgeE (.cur s) env) { st with cur := delCur s st.cur }
      | false => False
    | _ => False
  | _ :: _, _, _, _ => False

def VTs (RO : Nat → Prop) (w : World) (ts : List T) (vs : List Value) : Prop :=
  ts.length = vs.length ∧ ∀ (i : Nat) (x : T) (v : Value), ts[i]? = some x → vs[i]? = some v → VT RO w x v
theorem VTs.mono {RO' : Nat → Prop} (hro : ∀ b, RO b → RO' b) {ts : List T} {vs : List Value} (h : VTs RO w ts vs) : VTs RO' w ts vs :=
  ⟨h.1, fun i x v hx hv => (h.2 i x v hx hv).mono hro fun _ _ => rfl⟩
theorem VTs.snoc {ts : List T} {vs : List Value} {x : T} {v : Value} (h : VTs RO w ts vs) (hx : VT RO w x v) : VTs RO w (ts ++ [x]) (vs ++ [v]) := by
  refine ⟨by simp [h.1], fun i y u hy hu => ?_⟩
  by_cases hi : i < ts.length
  · rw [List.getElem?_append_left hi] at hy
    rw [List.getElem?_append_left (h.1 ▸ hi)] at hu
    exact h.2 i y u hy hu
  · rw [List.getElem?_append_right (by omega)] at hy
    rw [List.getElem?_append_right (by rw [← h.1]; omega), ← h.1] at hu
    have : i - ts.length = 0 := by have := (List.getElem?_eq_some_iff.1 hy).1; simp at this; omega
    rw [this] at hy hu
    simp at hy hu
    rw [← hy, ← hu]; exact hx

theorem VL.ro {RO' : Nat → Prop} (hro : ∀ b, RO b → RO' b) {x : LV} {v : Value} (h : VL β RO w x v) : VL β RO' w x v :=
  h.mono hro (fun _ _ => rfl) (fun _ => True) (fun _ _ => ⟨rfl, fun _ h => h⟩) fun _ _ => trivial

theorem CellsOK.ro {RO' : Nat → Prop} (hro : ∀ b, RO b → RO' b) {cs : List LV} {vs : List Value} (h : CellsOK β RO w cs vs) : CellsOK β RO' w cs vs :=
  ⟨h.1, fun i x v hx hv => (h.2.1 i x v hx hv).ro hro, h.2.2⟩

theorem cellsTW_gives {K' : List T → Env → St → Prop} : ∀ {cs : List LV} {vs : List Value} {acc : List T} {us : List Value} {RO : Nat → Prop} {env : Env} {st : St}, SR E N β RO env st a w → CellsOK β RO w cs vs → VTs RO w acc us →
    cellsTW K' cs acc env st → ∃ env' st' RO' ts, (∀ b, RO b → RO' b) ∧ SR E N β RO' env' st' a w ∧ VTs RO' w ts (us ++ vs) ∧ K' ts env' st'
  | [], vs, acc, us, RO, env, st, h, hc, ha, hW => by
    have : vs = [] := List.eq_nil_of_length_eq_zero hc.1.symm
    subst this
    exact ⟨env, st, RO, acc, fun _ h => h, h, by simpa using ha, hW⟩
  | x :: r, [], acc, us, RO, env, st, h, hc, ha, hW => by have := hc.1; simp at this
  | x :: r, v :: vs, acc, us, RO, env, st, h, hc, ha, hW => by
    have hx := hc.2.1 0 x v rfl rfl
    have hr : CellsOK β RO w r vs := ⟨by simpa using hc.1, fun i y u hy hu => hc.2.1 (i + 1) y u (by simpa using hy) (by simpa using hu), fun u hu => hc.2.2 u (List.mem_cons_of_mem _ hu)⟩
    unfold cellsTW at hW
    split at hW
    · rename_i heq; cases heq
    · rename_i y r' heq
      cases heq
      cases hx with
      | t _ _ hx =>
      obtain ⟨env', st', RO', ts, h1, h2, h3, h4⟩ := cellsTW_gives h hr (ha.snoc hx) hW
      exact ⟨env', st', RO', ts, h1, h2, by simpa using h3, h4⟩
    · rename_i s sz off len r' heq
      cases heq
      split at hW
      · rename_i e sz' es hlk
        split at hW
        · rename_i hsz
          simp at hsz
          subst hsz
          obtain ⟨hl, hW⟩ := hW
          have hf := h.freeze hlk
          have hsnap := snap (RO' := fun b => RO b ∨ b = β (.cur s)) (fun b hb => .inl hb) (.inr rfl) (h.wr.obj (.cur s) _ hlk) hx hl
          obtain ⟨env', st', RO', ts, h1, h2, h3, h4⟩ := cellsTW_gives hf (hr.ro fun b hb => .inl hb) ((ha.mono fun b hb => .inl hb).snoc hsnap) hW
          exact ⟨env', st', RO', ts, fun b hb => h1 b (.inl hb), h2, by simpa using h3, h4⟩
        · cases hW
      · cases hW
    · cases hW

/-! ### A literal of a slice -/
def partsW (env0 : Nat) (sz : Nat) (K' : List (List T) → Env → St → Prop) : Nat → List (Nat × Operand) → List (List T) → Env → St → Prop
  | _, [], acc, env, st => K' acc env st
  | i, (j, o) :: r, acc, env, st => match Nat.beq i j, cellsOf (opd env o) with
    | true, some cs => match Nat.beq cs.length sz with
      | true => cellsTW (fun ts env st => partsW env0 sz K' (i + 1) r (acc ++ [ts]) env st) cs [] env st
      | false => False
    | _, _ => False

def FlatV (RO : Nat → Prop) (w : World) (sz : Nat) (es : List (List T)) (us : List Value) : Prop := Flat RO w sz es us ∧ ∀ u ∈ us, u.oneCell' = true

theorem Flat.snoc {sz : Nat} {es : List (List T)} {us vs : List Value} {ts : List T} (h : Flat RO w sz es us) (ht : VTs RO w ts vs) (hl : ts.length = sz) : Flat RO w sz (es ++ [ts]) (us ++ vs) := by
  refine ⟨by simp [h.1, ← ht.1, hl, Nat.add_mul], fun i e hi => ?_⟩
  by_cases hil : i < es.length
  · rw [List.getElem?_append_left hil] at hi
    obtain ⟨h1, h2⟩ := h.2 i e hi
    refine ⟨h1, fun j x hj => ?_⟩
    obtain ⟨u, hu, hv⟩ := h2 j x hj
    exact ⟨u, by rw [List.getElem?_append_left (List.getElem?_eq_some_iff.1 hu).1]; exact hu, hv⟩
  · rw [List.getElem?_append_right (by omega)] at hi
    have : i - es.length = 0 := by have := (List.getElem?_eq_some_iff.1 hi).1; simp at this; omega
    rw [this] at hi
    simp at hi
    subst hi
    refine ⟨hl, fun j x hj => ?_⟩
    have hjl := (List.getElem?_eq_some_iff.1 hj).1
    have hi2 : i = es.length := by omega
    have hjv : j < vs.length := by rw [← ht.1]; exact hjl
    refine ⟨vs[j]'hjv, ?_, ht.2 j x _ hj (List.getElem?_eq_getElem hjv)⟩
    rw [List.getElem?_append_right (by rw [h.1, hi2]; omega), h.1, hi2, Nat.add_sub_cancel_left]
    exact List.getElem?_eq_getElem hjv

theorem partsW_gives {K' : List (List T) → Env → St → Prop} {n0 sz : Nat} : ∀ {parts : List (Nat × Operand)} {i : Nat} {acc : List (List T)} {us : List Value} {RO : Nat → Prop} {env : Env} {st : St}, SR E N β RO env st a w → FlatV RO w sz acc us → acc.length = i →
    partsW n0 sz K' i parts acc env st → ∃ env' st' RO' els vs, SR E N β RO' env' st' a w ∧ FlatV RO' w sz els (us ++ vs) ∧ K' els env' st' ∧ els.length = i + parts.length ∧
      ∀ (zs : List Value), zs.length = parts.length * sz → Instr.fill (fun i => some (i * sz, sz)) (us ++ zs).toArray (parts.map fun p => (p.1, a.eval p.2)) = some (us ++ vs).toArray
  | [], i, acc, us, RO, env, st, h, hf, hi, hW => by
    refine ⟨env, st, RO, acc, [], h, by simpa using hf, hW, by simpa using hi, fun zs hz => ?_⟩
    have : zs = [] := List.eq_nil_of_length_eq_zero (by simpa using hz)
    subst this
    simp [Instr.fill]
  | (j, o) :: r, i, acc, us, RO, env, st, h, hf, hi, hW => by
    unfold partsW at hW
    split at hW
    · rename_i cs hij hcs
      simp at hij
      subst hij
      split at hW
      · rename_i hsz
        simp at hsz
        obtain ⟨c1, c2, c3⟩ := (h.opd o).cells_inv hcs
        have hc : CellsOK β RO w cs (a.eval o).cells.toList := ⟨by simpa using c1, fun i y v hy hv => c2 i y v hy (by simpa using hv), c3⟩
        obtain ⟨env1, st1, RO1, ts, hro, h1, ht, hW1⟩ := cellsTW_gives h hc (acc := []) (us := []) ⟨rfl, fun i x v hx => by simp at hx⟩ hW
        simp only [List.nil_append] at ht
        have htl : ts.length = sz := by rw [ht.1]; simp [← c1, hsz]
        have hf1 : FlatV RO1 w sz (acc ++ [ts]) (us ++ (a.eval o).cells.toList) := ⟨(hf.1.mono hro fun _ _ => rfl).snoc ht htl, fun u hu => by
          rcases List.mem_append.1 hu with hu | hu
          · exact hf.2 u hu
          · exact c3 u hu⟩
        obtain ⟨env', st', RO', els, vs, h2, h3, h4, h5, h6⟩ := partsW_gives h1 hf1 (by simp [hi]) hW1
        refine ⟨env', st', RO', els, (a.eval o).cells.toList ++ vs, h2, by simpa using h3, h4, by simp only [List.length_cons]; omega, fun zs hz => ?_⟩
        simp only [List.map_cons, Instr.fill]
        have hcl : (a.eval o).cells.size = sz := by rw [← c1]; exact hsz
        have hul : us.length = i * sz := by rw [hf.1.1, hi]
        simp only [List.length_cons, Nat.add_mul, Nat.one_mul] at hz
        rw [if_neg (by simp [hcl]; omega)]
        have e := foldl_set (i * sz) (a.eval o).cells.toList (us ++ zs) 0 (by simp; omega)
        simp only [Nat.add_zero] at e
        rw [← Array.foldl_toList]
        simp only [Array.toList_zipIdx]
        rw [e]
        have e1 : (us ++ zs).take (i * sz) = us := by rw [← hul]; simp
        have e2 : (us ++ zs).drop (i * sz + (a.eval o).cells.toList.length) = zs.drop sz := by
          rw [Array.length_toList, hcl, ← hul, List.drop_append]; simp
        rw [e1, e2]
        have := h6 (zs.drop sz) (by simp; omega)
        simpa using this
      · cases hW
    · cases hW

end
end Go.Fw

/- The value logic, part 9: literals of slices, stores. -/
namespace Go.Fw
open Go

def litW (C : Ctx) (env : Env) (st : St) (s : Nat) (t len : Nat) (parts : List (Nat × Operand)) (K' : LV → Env → St → Prop) : Prop :=
  match C.ty t with
  | some ⟨.slice e, _, _, _⟩ => match C.ty e with
    | some te => match Nat.beq parts.length len, Nat.ble (len * te.size) 16777216, Nat.ble len 16777216 with
      | true, true, true => partsW 0 te.size (fun els env st => match freshB env st.cur s with
          | true => K' (.osl (.cur s) te.size 0 len) env { st with cur := (s, .row e te.size els) :: st.cur }
          | false => False) 0 parts [] env st
      | _, _, _ => False
    | none => False
  | _ => False

theorem seg_get {α : Type} (us vs : List α) (p q : Nat) (h : p + vs.length ≤ us.length) :
    (us.take p ++ vs ++ us.drop (p + vs.length))[q]? = if q < p then us[q]? else if q < p + vs.length then vs[q - p]? else us[q]? := by
  have hl : (us.take p).length = p := by simp; omega
  by_cases h1 : q < p
  · rw [if_pos h1, List.append_assoc, List.getElem?_append_left (by omega), List.getElem?_take, if_pos h1]
  · rw [if_neg h1, List.append_assoc, List.getElem?_append_right (by omega), hl]
    by_cases h2 : q < p + vs.length
    · rw [if_pos h2, List.getElem?_append_left (by omega)]
    · rw [if_neg h2, List.getElem?_append_right (by omega), List.getElem?_drop]
      congr 1; omega

section
variable {C : Ctx} {P : Program} (hC : C.OK P) {E : Ent} {N : Nat} {β : K → Nat} {RO : Nat → Prop} {env : Env} {st : St} {a : Act} {w : World}

include hC
theorem litW_gives (h : SR E N β RO env st a w) {s t len : Nat} {parts : List (Nat × Operand)} {K' : LV → Env → St → Prop} (hW : litW C env st s t len parts K') :
    Gives P E N a w (Instr.buildSlice t len (parts.toArray.map fun p => (p.1, a.eval p.2))) K' := by
  unfold litW at hW
  split at hW
  · rename_i e sz b z ht
    have hu := run_slice_ty hC ht
    split at hW
    · rename_i te hte
      split at hW
      · rename_i hpl hbig hbig2
        simp at hpl hbig hbig2
        subst hpl
        obtain ⟨env', st', RO', els, vs, h1, h2, h3, h4, h5⟩ := partsW_gives (us := []) (acc := []) (i := 0) h ⟨⟨by simp, fun i e hi => by cases hi⟩, fun u hu => by cases hu⟩ rfl hW
        simp only [List.nil_append, Nat.zero_add] at h2 h4 h5
        split at h3
        · rename_i hf
          obtain ⟨j, zz, hj, hjs, _, hz, hzc⟩ := (hC.ty hte).info
          have hone := (hC.ty hte).one
          simp only [Bool.and_eq_true, List.all_eq_true, Nat.beq_eq] at hone
          have hzl : te.zero.length = te.size := by simpa using hone.2
          have hzc' : zz.cells = te.zero.toArray := by rw [← Array.toList_inj]; simpa using hzc
          have hvl : vs.toArray.size = parts.length * te.size := by simp [h2.1.1, h4]
          have hcap2 : parts.length ≤ maxLen := by unfold maxLen; omega
          have hown := World.ownsRow_lit (base := 0) (e := e) (size := te.size) w vs.toArray parts.length (Nat.zero_le _) hcap2 hvl
          have hrow := row_gives h1 hf (Step.alloc w (.cells vs.toArray e)) (by rw [alloc_size]; omega) (alloc_old _ _) hown h4 (by simpa using h2.1)
          refine ⟨_, _, _, env', _, _, RO', ?_, h3, hrow.1, hrow.2⟩
          have hfill : Instr.fill (fun i => some (i * te.size, te.size)) ((Array.range (parts.length * te.size)).map ((if parts.length * te.size = 0 then #[] else te.zero.toArray)[· % (if parts.length * te.size = 0 then #[] else te.zero.toArray).size]!)) (parts.map fun p => (p.1, a.eval p.2)) = some vs.toArray := by
            have := h5 ((Array.range (parts.length * te.size)).map ((if parts.length * te.size = 0 then #[] else te.zero.toArray)[· % (if parts.length * te.size = 0 then #[] else te.zero.toArray).size]!)).toList (by simp)
            rw [Array.toArray_toList] at this
            exact this
          simp only [Instr.buildSlice, Sem.run_bind, run_underlying hu, Result.andThen_ok, run_sizeOf hC hte]
          rw [Sem.run_ite, if_neg (by omega), Sem.run_ite]
          have hml : (Array.map (fun p => (p.fst, a.eval p.snd)) parts.toArray).toList = parts.map fun p => (p.1, a.eval p.2) := by simp
          rw [hml]
          by_cases h0 : parts.length * te.size = 0
          · rw [if_pos h0]
            simp only [h0, if_true] at hfill ⊢
            simp only [Sem.run_bind, Sem.run_pure, Result.andThen_ok, hfill]
            simp [newRow]
          · rw [if_neg h0]
            simp only [h0, if_false] at hfill ⊢
            simp only [Sem.run_bind, Sem.run_pure, Result.andThen_ok, zeroValue, typeInfo, run_program, hj, hz, hzc', hfill]
            simp [newRow]
        · cases h3
      · cases hW
    · cases hW
  · cases hW

omit hC in
theorem Flat.set {sz i j : Nat} {es : List (List T)} {us vs : List Value} {el ts : List T} (h : Flat RO w sz es us) (hi : es[i]? = some el) (ht : VTs RO w ts vs) (hl : j + ts.length ≤ el.length) :
    Flat RO w sz (es.set i (el.take j ++ ts ++ el.drop (j + ts.length))) (us.take (i * sz + j) ++ vs ++ us.drop (i * sz + j + vs.length)) := by
  have hel := (h.2 i el hi).1
  have hil : i < es.length := (List.getElem?_eq_some_iff.1 hi).1
  have hmul : i * sz + sz ≤ es.length * sz := by
    have := Nat.mul_le_mul_right sz (show i + 1 ≤ es.length from hil)
    rw [Nat.add_mul] at this; omega
  have hfit : i * sz + j + vs.length ≤ us.length := by rw [h.1, ← ht.1]; omega
  refine ⟨?_, fun q e hq => ?_⟩
  · simp only [List.length_append, List.length_take, List.length_drop, List.length_set]
    rw [← h.1]; omega
  · rw [List.getElem?_set] at hq
    by_cases hqi : i = q
    · subst hqi
      rw [if_pos rfl, if_pos hil] at hq
      cases hq
      refine ⟨by simp; omega, fun r x hr => ?_⟩
      rw [seg_get el ts j r hl] at hr
      rw [seg_get us vs _ _ hfit]
      by_cases h1 : r < j
      · rw [if_pos h1] at hr
        rw [if_pos (by omega)]
        exact (h.2 i el hi).2 r x hr
      · rw [if_neg h1] at hr
        rw [if_neg (by omega)]
        by_cases h2 : r < j + ts.length
        · rw [if_pos h2] at hr
          rw [if_pos (by rw [← ht.1]; omega)]
          have hlt : r - j < vs.length := by rw [← ht.1]; omega
          refine ⟨vs[r - j], ?_, ht.2 _ x _ hr (List.getElem?_eq_getElem hlt)⟩
          rw [show i * sz + r - (i * sz + j) = r - j by omega]
          exact List.getElem?_eq_getElem hlt
        · rw [if_neg h2] at hr
          rw [if_neg (by rw [← ht.1]; omega)]
          exact (h.2 i el hi).2 r x hr
    · rw [if_neg hqi] at hq
      obtain ⟨h1, h2⟩ := h.2 q e hq
      refine ⟨h1, fun r x hr => ?_⟩
      obtain ⟨u, hu, hv⟩ := h2 r x hr
      refine ⟨u, ?_, hv⟩
      rw [seg_get us vs _ _ hfit]
      have hrl : r < sz := h1 ▸ (List.getElem?_eq_some_iff.1 hr).1
      have hvl : vs.length ≤ sz - j := by rw [← ht.1]; omega
      rcases Nat.lt_or_gt_of_ne hqi with hlt | hgt
      · have := Nat.mul_le_mul_right sz (show i + 1 ≤ q from hlt)
        rw [Nat.add_mul] at this
        rw [if_neg (by omega), if_neg (by omega)]; exact hu
      · have := Nat.mul_le_mul_right sz (show q + 1 ≤ i from hgt)
        rw [Nat.add_mul] at this
        rw [if_pos (by omega)]; exact hu

theorem run_storeVar_at {t b c ty : Nat} {ti : TI} {v : Value} {cur : Array Value} (ht : C.ty t = some ti) (hh : w.heap[b]? = some (.cells cur ty (0, 0))) (hs : v.cells.size = ti.size) (hfit : c + v.cells.size ≤ cur.size)
    (h1 : ∀ u ∈ v.cells.toList, u.oneCell' = true) :
    (storeVar t ⟨b, c, none⟩ v).run P w = .ok () (w.setRow b (cur.toList.take c ++ v.cells.toList ++ cur.toList.drop (c + v.cells.toList.length)).toArray) := by
  have := run_storeCells_at (P := P) b c ty v.cells.toList 0 cur w hh (by simpa using hfit) h1
  simp only [Nat.add_zero] at this
  simp only [storeVar, Sem.run_bind, run_sizeOf hC ht, Result.andThen_ok, hs, ne_eq, not_true_eq_false, if_false]
  exact this

omit hC in
/-- A root that is no grid, before and behind a write, gives and loses no inner rows. -/
theorem St.get_set_plain {st : St} {r : K} (hr : r.root = true) {o o' : Ob} (h : st.get r = some o) (ho : ∀ eo e sz rs, o ≠ .grid eo e sz rs) (ho' : ∀ eo e sz rs, o' ≠ .grid eo e sz rs) (hm : ∀ m l, o' ≠ .mit m l) (k : K) :
    (st.set r o').get k = if k = r then some (wk r o') else st.get k := by
  cases k with
  | sub k i =>
    rw [if_neg (by intro e; subst e; cases hr)]
    cases hk : k.root with
    | false =>
      have no : ∀ S : St, S.get (.sub k i) = none := by
        intro S
        cases hg : S.get (.sub k i) with
        | none => rfl
        | some o => obtain ⟨_, _, _, _, _, hg, _⟩ := St.get_sub hg; rw [St.root_of_get_grid hg] at hk; cases hk
      rw [no, no]
    | true =>
      have := St.get_set_root hr h (o' := o') hm k hk
      simp only [St.get]
      rw [this]
      by_cases hkr : k = r
      · subst hkr
        rw [if_pos rfl, h]
        cases o <;> cases o' <;> first
          | exact absurd rfl (ho _ _ _ _)
          | exact absurd rfl (ho' _ _ _ _)
          | (cases k <;> first | rfl | cases hk)
      · rw [if_neg hkr]
  | cur n => exact St.get_set_root hr h hm _ rfl
  | fr i n => exact St.get_set_root hr h hm _ rfl

end

section
variable {C : Ctx} {P : Program} (hC : C.OK P) {E : Ent} {N : Nat} {β : K → Nat} {RO : Nat → Prop} {env : Env} {st : St} {a : Act} {w w' : World}

/-- Another object, behind a write into a row of cells. -/
theorem ObOK.other {k k' : K} {o o0 : Ob} (h : WR E β RO st w) (hk : st.get k = some o0) (hc : ∃ c t f, w.heap[β k]? = some (.cells c t f)) (hb : ∀ b, b ≠ β k → w'.heap[b]? = w.heap[b]?)
    (hsh : ∀ b, w'.shape? b = w.shape? b) (hcan : E.can k) (hne : k' ≠ k) (hk' : st.get k' = some o) : ObOK β RO w' k' o := by
  have hro : ∀ b, RO b → w'.heap[b]? = w.heap[b]? := fun b hb' => hb b fun e => h.sep k o0 hk hcan (e ▸ hb')
  have hok := h.obj k' o hk'
  have hbne : β k' ≠ β k := fun e => by
    by_cases hc' : E.can k'
    · exact hne (h.inj k' k o o0 hk' hk hc' hcan e)
    · exact h.sep k o0 hk hcan (e ▸ h.fzRO k' o hk' hc')
  refine hok.keep (fun _ h => h) hro rfl (hb _ hbne) (fun cs _ x _ v hv => hv.write (h.sep k o0 hk hcan) hb hsh) (fun _ _ _ _ _ _ _ _ => ⟨rfl, fun _ hr => (hsh _).trans hr⟩) fun m left ho => ?_
  subst ho
  obtain ⟨_, ents, clock, _, h2, _⟩ := hok
  refine ⟨rfl, hb _ fun e => ?_⟩
  obtain ⟨c, t, f, h3⟩ := hc
  rw [e, h3] at h2
  cases h2

theorem ObOK.wk {r k : K} {o : Ob} (h : ObOK β RO w k o) : ObOK β RO w k (wk r o) := by
  have key : ∀ cs, ObOK β RO w k (.box cs) → ObOK β RO w k (.box (lowL cs)) := by
    intro cs h
    obtain ⟨vs, ety, h1, h2, h3, h4⟩ := h
    have hl : lowL cs = cs.map lowV := by
      clear h2 h3
      induction cs with
      | nil => rfl
      | cons x r ih => simp only [lowL, ih, List.map_cons]
    rw [hl]
    refine ⟨vs, ety, h1, by simpa using h2, fun i x v hx hv => ?_, h4⟩
    rw [List.getElem?_map] at hx
    cases hc : cs[i]? with
    | none => simp [hc] at hx
    | some y =>
      simp [hc] at hx
      rw [← hx]
      have := h3 i y v hc hv
      cases y <;> first | exact this | exact .bad v
  cases r with
  | fr i s =>
    cases o with
    | box cs => exact key cs h
    | _ => exact h
  | _ => exact h

theorem VL.setRow {g ty : Nat} {old cs : Array Value} (h : WR E β RO st w) {k : K} {o : Ob} (hk : st.get k = some o) (hcan : E.can k) (hg : β k = g) (hh : w.heap[g]? = some (.cells old ty (0, 0))) (hs : cs.size = old.size) {x : LV} {v : Value} (hx : VL β RO w x v) :
    VL β RO (w.setRow g cs) x v :=
  hx.write (g := g) (hg ▸ h.sep k o hk hcan) (fun b hb => setRow_other w g b cs hb) (shape_setRow w g cs old ty (0, 0) hh hs)

/-- Plain objects stay plain. -/
theorem SR.writePlain {k : K} {o o' : Ob} {ty : Nat} {old cs : Array Value} (h : SR E N β RO env st a w) (hr : k.root = true) (hcan : E.can k) (hk : st.get k = some o) (ho : ∀ eo e sz rs, o ≠ .grid eo e sz rs) (ho' : ∀ eo e sz rs, o' ≠ .grid eo e sz rs)
    (hh : w.heap[β k]? = some (.cells old ty (0, 0))) (hs : cs.size = old.size) (hob : ObOK β RO (w.setRow (β k) cs) k o') (hm : ∀ m l, o' ≠ .mit m l) :
    SR E N β RO env (st.set k o') a (w.setRow (β k) cs) := by
  refine ⟨h.wr.write (Step.setRow _ _ _) (by simp [World.setRow]) ⟨k, o, hk, hcan, rfl⟩ (fun b hb => setRow_other w _ b cs hb) (fun k' o2 hk' => ?_), h.size, h.defers, fun n x hx => ?_⟩
  · rw [St.get_set_plain hr hk ho ho' hm] at hk'
    split at hk'
    · rename_i he
      subst he
      cases hk'
      exact ⟨⟨o, hk⟩, hob.wk⟩
    · rename_i hne
      exact ⟨⟨o2, hk'⟩, ObOK.other h.wr hk ⟨_, _, _, hh⟩ (fun b hb => setRow_other w _ b cs hb) (shape_setRow w _ cs old ty (0, 0) hh hs) hcan hne hk'⟩
  · obtain ⟨v, h1, h2⟩ := h.env n x hx
    exact ⟨v, h1, VL.setRow h.wr hk hcan rfl hh hs h2⟩

include hC
theorem storeBox {k : K} {cs xs : List LV} {v : Value} {t c : Nat} {ti : TI} (h : SR E N β RO env st a w) (hr : k.root = true) (hcan : E.can k) (hk : st.get k = some (.box cs)) (ht : C.ty t = some ti) (hsz : xs.length = ti.size)
    (hx : CellsOK β RO w xs v.cells.toList) (hl : c + xs.length ≤ cs.length) :
    ∃ w', (storeVar t ⟨β k, c, none⟩ v).run P w = .ok () w' ∧ SR E N β RO env (st.set k (.box (cs.take c ++ xs ++ cs.drop (c + xs.length)))) a w' := by
  obtain ⟨vs, ety, hh, hcl, hcv, hc1⟩ := h.wr.obj k _ hk
  have hxl := hx.1
  refine ⟨_, run_storeVar_at hC ht hh (by rw [← hsz, hxl]; simp) (by simp; simp at hxl; omega) hx.2.2, ?_⟩
  have hvl : xs.length = v.cells.toList.length := hxl
  have hsize : (vs.toArray.toList.take c ++ v.cells.toList ++ vs.toArray.toList.drop (c + v.cells.toList.length)).toArray.size = vs.toArray.size := by
    simp only [List.size_toArray, List.length_append, List.length_take, List.length_drop]; omega
  refine h.writePlain hr hcan hk (fun _ _ _ _ e => by cases e) (fun _ _ _ _ e => by cases e) hh hsize ?_ (fun _ _ e => by cases e)
  refine ⟨vs.take c ++ v.cells.toList ++ vs.drop (c + v.cells.toList.length), ety, by rw [setRow_heap w _ _ _ _ _ hh], by simp only [List.length_append, List.length_take, List.length_drop]; omega, fun i x u hi hu => ?_, fun u hu => ?_⟩
  · rw [seg_get cs xs c i hl] at hi
    rw [seg_get vs _ c i (by rw [← hvl]; omega)] at hu
    refine VL.setRow h.wr hk hcan rfl hh hsize ?_
    by_cases h1 : i < c
    · rw [if_pos h1] at hi hu; exact hcv i x u hi hu
    · rw [if_neg h1] at hi hu
      by_cases h2 : i < c + xs.length
      · rw [if_pos h2] at hi; rw [if_pos (by omega)] at hu; exact hx.2.1 _ x u hi hu
      · rw [if_neg h2] at hi; rw [if_neg (by omega)] at hu; exact hcv i x u hi hu
  · rcases List.mem_append.1 hu with hu | hu
    · rcases List.mem_append.1 hu with hu | hu
      · exact hc1 u (List.mem_of_mem_take hu)
      · exact hx.2.2 u hu
    · exact hc1 u (List.mem_of_mem_drop hu)

omit hC in
theorem row_block {k : K} {e sz : Nat} {es : List (List T)} (h : ObOK β RO w k (.row e sz es)) :
    ∃ us cap cur, w.heap[β k]? = some (.cells cur e (0, 0)) ∧ es.length ≤ cap ∧ cap ≤ maxLen ∧ cur.size = cap * sz ∧ cur.toList.take (es.length * sz) = us ∧ us.length = es.length * sz ∧ Flat RO w sz es us := by
  obtain ⟨us, cap, hown, hf⟩ := h
  rcases hown.2 with ⟨h0, _⟩ | ⟨g, cap', cur, hv, _, hh, hnc, hcm, hcs, htk⟩
  · cases h0
  · cases hv
    exact ⟨us, cap, cur, hh, hnc, hcm, hcs, htk, hown.1, hf⟩

/-- A store into an element of a row. -/
theorem storeRow {k : K} {e sz i j : Nat} {es : List (List T)} {el ts : List T} {v : Value} {t : Nat} {ti : TI} (h : SR E N β RO env st a w) (hr : k.root = true) (hcan : E.can k) (hk : st.get k = some (.row e sz es)) (ht : C.ty t = some ti) (hsz : ts.length = ti.size)
    (hx : VTs RO w ts v.cells.toList) (hi : es[i]? = some el) (hl : j + ts.length ≤ el.length) :
    ∃ w', (storeVar t ⟨β k, i * sz + j, none⟩ v).run P w = .ok () w' ∧ SR E N β RO env (st.set k (.row e sz (es.set i (el.take j ++ ts ++ el.drop (j + ts.length))))) a w' := by
  obtain ⟨us, cap, cur, hh, hnc, hcm, hcs, htk, hul, hf⟩ := row_block (h.wr.obj k _ hk)
  have hxl := hx.1
  have hel := (hf.2 i el hi).1
  have hil : i < es.length := (List.getElem?_eq_some_iff.1 hi).1
  have hmul : i * sz + sz ≤ es.length * sz := by
    have := Nat.mul_le_mul_right sz (show i + 1 ≤ es.length from hil)
    rw [Nat.add_mul] at this; omega
  have hcap : es.length * sz ≤ cur.size := by rw [hcs]; exact Nat.mul_le_mul_right _ hnc
  have hvl : v.cells.size = ts.length := by rw [hxl]; simp
  have h1 : ∀ u ∈ v.cells.toList, u.oneCell' = true := by
    intro u hu
    obtain ⟨q, hq, rfl⟩ := List.getElem_of_mem hu
    exact (hx.2 q (ts[q]'(by omega)) _ (List.getElem?_eq_getElem _) (List.getElem?_eq_getElem hq)).one
  refine ⟨_, run_storeVar_at hC ht hh (by omega) (by omega) h1, ?_⟩
  have hvl2 : v.cells.toList.length = ts.length := hxl.symm
  have hsize : (cur.toList.take (i * sz + j) ++ v.cells.toList ++ cur.toList.drop (i * sz + j + v.cells.toList.length)).toArray.size = cur.size := by
    simp only [List.size_toArray, List.length_append, List.length_take, List.length_drop, Array.length_toList]; omega
  refine h.writePlain hr hcan hk (fun _ _ _ _ e => by cases e) (fun _ _ _ _ e => by cases e) hh hsize ?_ (fun _ _ e => by cases e)
  refine ⟨us.take (i * sz + j) ++ v.cells.toList ++ us.drop (i * sz + j + v.cells.toList.length), cap, ⟨?_, .inr ⟨β k, cap, _, rfl, Nat.zero_le _, setRow_heap w _ _ _ _ _ hh, by simpa using hnc, hcm, by rw [hsize]; exact hcs, ?_⟩⟩, ?_⟩
  · simp only [List.length_append, List.length_take, List.length_drop, List.length_set, hul]; omega
  · refine List.ext_getElem? fun q => ?_
    rw [List.getElem?_take, List.length_set, seg_get us _ _ _ (by omega)]
    simp only []
    rw [seg_get cur.toList _ _ _ (by simp; omega)]
    have hcu : ∀ q, q < es.length * sz → cur.toList[q]? = us[q]? := fun q hq => by rw [← htk, List.getElem?_take, if_pos hq]
    by_cases hq : q < es.length * sz
    · rw [if_pos hq, hcu q hq]
    · rw [if_neg hq, if_neg (by omega), if_neg (by omega), List.getElem?_eq_none (by omega)]
  · refine ((hf.set hi hx hl).mono (fun _ h => h) fun b hb => setRow_other w (β k) b _ fun e => h.wr.sep k _ hk hcan (by rw [← e]; exact hb))

end
end Go.Fw

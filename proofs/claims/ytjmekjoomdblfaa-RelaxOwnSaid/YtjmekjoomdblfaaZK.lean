/- Rules, offers. -/
import Derived.Test.YtjmekjoomdblfaaZI
import Derived.Test.YtjmekjoomdblfaaZF
import Derived.Test.YtjmekjoomdblfaaZJ
import Derived.Test.YtjmekjoomdblfaaZG

/- What the program's functions do: numbers of literals, lists that contain. -/
namespace Go.Fw
open Go Go.Proofs
set_option maxRecDepth 10000

theorem f29_spec (l : Lit) (hb : big l.fact) (out : List Fr) : SpecP Try.prog 29 [.lit l] out fun r ro => r = .int (codeI l) ∧ ro = [] := by
  refine spec_body cx_ok [] [] (fn := Try.f29) (by kernel_rfl) rfl (by kernel_rfl) rfl (by unfold FnOK; kernel_rfl) fun hok => ?_
  unfold big at hb
  refine And.intro (fun h => ?_) fun h => ?_
  · refine And.intro (by omega) (And.intro (by omega) (And.intro (by omega) (And.intro (by omega) ?_)))
    exact Exists.intro [] (And.intro (show LV.t (.v (.int .i64 (2 * l.fact + 1))) = .int (codeI l) by simp [codeI, h, LV.int]) rfl)
  · refine And.intro (by omega) (And.intro (by omega) ?_)
    exact Exists.intro [] (And.intro (show LV.t (.v (.int .i64 (2 * l.fact))) = .int (codeI l) by simp [codeI, h, LV.int]) rfl)
theorem f45_spec (l : Lit) (hb : big l.fact) (out : List Fr) : SpecP Try.prog 45 [.lit l] out fun r ro => r = .int (codeI l) ∧ ro = [] := by
  refine spec_body cx_ok [] [] (fn := Try.f45) (by kernel_rfl) rfl (by kernel_rfl) rfl (by unfold FnOK; kernel_rfl) fun hok => ?_
  unfold big at hb
  refine And.intro (fun h => ?_) fun h => ?_
  · refine And.intro (by omega) (And.intro (by omega) (And.intro (by omega) (And.intro (by omega) ?_)))
    exact Exists.intro [] (And.intro (show LV.t (.v (.int .i64 (2 * l.fact + 1))) = .int (codeI l) by simp [codeI, h, LV.int]) rfl)
  · refine And.intro (by omega) (And.intro (by omega) ?_)
    exact Exists.intro [] (And.intro (show LV.t (.v (.int .i64 (2 * l.fact))) = .int (codeI l) by simp [codeI, h, LV.int]) rfl)

def kp55 : Kp := [(2, ([0, 1, 7, 8], []))]
theorem f55_spec (n1 : Bool) (l : List Int) (x : Int) (out : List Fr) : SpecP Try.prog 55 [.ints n1 l, .int x] out fun r ro => ∃ j : Int, r = .int j ∧ decide (j ≥ 0) = l.any (x == ·) ∧ ro = [] := by
  refine spec_body cx_ok kp55 [] (fn := Try.f55) (by kernel_rfl) rfl (by kernel_rfl) rfl (by unfold FnOK; kernel_rfl) fun hok => ?_
  have hmx := le_max hok.1.1
  refine LoopW.mk Nat (fun i => i ≤ l.length ∧ (l.take i).any (x == ·) = false) (fun i => [(0, .ints n1 l), (1, .int x), (7, .int (l.map tI).length), (8, .int i)]) (fun _ => ⟨out, []⟩) (fun i => l.length - i) 0 ⟨Nat.zero_le _, rfl⟩ ⟨rfl, rfl⟩ fun i hI => ?_
  refine And.intro (fun h1 => ?_) fun h1 => ?_
  · have hi := lt_of_dec h1
    refine And.intro (by omega) (Exists.intro _ (And.intro (get_map hi) ?_))
    refine And.intro (fun h2 => ?_) fun h2 => ?_
    · exact Exists.intro [] ⟨_, rfl, by rw [any_true hi h2]; simp, rfl⟩
    · refine And.intro (by omega) (And.intro (by omega) ?_)
      exact Exists.intro (i + 1) (And.intro (by show l.length - (i + 1) < l.length - i; omega) (And.intro ⟨hi, any_step hi hI.2 h2⟩ (And.intro rfl rfl)))
  · exact Exists.intro [] ⟨_, rfl, by rw [any_end (ge_of_dec h1) hI.2]; rfl, rfl⟩
theorem f30_spec (n1 : Bool) (l : List Int) (x : Int) (out : List Fr) : SpecP Try.prog 30 [.ints n1 l, .int x] out fun r ro => r = .bool (l.any (x == ·)) ∧ ro = [] := by
  refine spec_body cx_ok [] [] (fn := Try.f30) (by kernel_rfl) rfl (by kernel_rfl) rfl (by unfold FnOK; kernel_rfl) fun hok => ?_
  refine SpecP.mono (f55_spec n1 l x []) ?_
  rintro _ _ ⟨j, rfl, hj, rfl⟩
  refine And.intro (fun h => ?_) fun h => ?_
  · exact Exists.intro [] (ret_bool (by rw [← hj]; exact h) rfl)
  · exact Exists.intro [] (ret_bool (by rw [← hj]; exact h) rfl)

/-- A slice that is nil has no elements. -/
theorem SpecP.nil_any {P : Program} {f : Nat} {args : List LV} {out : List Fr} {Post : LV → Fr → Prop} {i : Nat} {n1 : Bool} {sz : Nat} {es : List (List T)} (hi : args[i]? = some (.t (.sl n1 sz es))) (hfn : FnOK P f) (h : (n1 = true → es = []) → SpecP P f args out Post) : SpecP P f args out Post :=
  ⟨hfn, fun β RO w vals hw hv => (h fun hn => by
    have hl : i < vals.length := by rw [← hv.1]; exact (List.getElem?_eq_some_iff.1 hi).1
    have hx := hv.2 i _ _ hi (List.getElem?_eq_getElem hl)
    cases hx with
    | t _ _ hx => exact vt_nil hx hn).calls β RO w vals hw hv⟩
theorem take_all {α : Type} {l : List α} : l = (l.drop 0).take l.length := by rw [List.drop_zero, List.take_of_length_le (Nat.le_refl _)]
theorem f62_spec (n1 : Bool) (s : List Lit) (hl : s.length ≤ 1000000000) (out : List Fr) : SpecP Try.prog 62 [.lits n1 s] out fun r ro =>
    (n1 = true ∧ s = [] ∧ r = .t (.sl true 0 []) ∧ ro = []) ∨ (n1 = false ∧ r = .osl (.cur 40) 2 0 (s.map tLit).length ∧ ro = [(40, .row 51 2 (s.map tLit))]) := by
  refine SpecP.nil_any (i := 0) rfl (by unfold FnOK; kernel_rfl) fun hnil => ?_
  refine spec_body cx_ok [] [] (fn := Try.f62) (by kernel_rfl) rfl (by kernel_rfl) rfl (by unfold FnOK; kernel_rfl) fun hok => ?_
  have hsl : (s.map tLit).length = s.length := List.length_map ..
  refine And.intro (fun h => ?_) fun h => ?_
  · exact Exists.intro [] (.inl ⟨h, List.map_eq_nil_iff.1 (hnil h), rfl, rfl⟩)
  refine And.intro rfl (And.intro (by show (s.map tLit).length * 16 ≤ _; omega) (And.intro (by show (s.map tLit).length ≤ _; omega) ?_))
  exact Exists.intro [40] (.inr ⟨h, rfl, rfl⟩)

end Go.Fw

/- A result's own rows, given away for ever; nil slices deep in closed data. -/
namespace Go.Fw
open Go Go.Proofs
set_option maxRecDepth 10000

/-! ### Nil slices deep in closed data -/
def T.un : T → T
  | .v x => .v x
  | .sl true _ [] => .sl true 0 []
  | .sl n sz es => .sl n sz (unEs es)
where
  unEs : List (List T) → List (List T)
    | [] => []
    | el :: r => unEl el :: unEs r
  unEl : List T → List T
    | [] => []
    | x :: r => T.un x :: unEl r
theorem unEl_get : ∀ {el el' : List T}, T.un.unEl el' = T.un.unEl el → el'.length = el.length ∧ ∀ (j : Nat) (x' : T), el'[j]? = some x' → ∃ x, el[j]? = some x ∧ x'.un = x.un
  | [], [], _ => ⟨rfl, fun j x h => by simp at h⟩
  | [], _ :: _, h => by simp [T.un.unEl] at h
  | _ :: _, [], h => by simp [T.un.unEl] at h
  | x :: r, x' :: r', h => by
    simp only [T.un.unEl, List.cons.injEq] at h
    obtain ⟨h1, h2⟩ := unEl_get h.2
    refine ⟨by simp [h1], fun j y hy => ?_⟩
    cases j with
    | zero => simp at hy; subst hy; exact ⟨x, rfl, h.1⟩
    | succ j => simpa using h2 j y (by simpa using hy)
theorem unEs_get : ∀ {es es' : List (List T)}, T.un.unEs es' = T.un.unEs es → es'.length = es.length ∧ ∀ (i : Nat) (e' : List T), es'[i]? = some e' → ∃ e, es[i]? = some e ∧ T.un.unEl e' = T.un.unEl e
  | [], [], _ => ⟨rfl, fun j x h => by simp at h⟩
  | [], _ :: _, h => by simp [T.un.unEs] at h
  | _ :: _, [], h => by simp [T.un.unEs] at h
  | x :: r, x' :: r', h => by
    simp only [T.un.unEs, List.cons.injEq] at h
    obtain ⟨h1, h2⟩ := unEs_get h.2
    refine ⟨by simp [h1], fun j y hy => ?_⟩
    cases j with
    | zero => simp at hy; subst hy; exact ⟨x, rfl, h.1⟩
    | succ j => simpa using h2 j y (by simpa using hy)
theorem un_sl {sz : Nat} {es : List (List T)} : (T.sl false sz es).un = .sl false sz (T.un.unEs es) := by cases es <;> rfl
theorem un_inv {y : T} : ∀ {sz : Nat} {es : List (List T)}, y.un = .sl false sz (T.un.unEs es) → ∃ es', y = .sl false sz es' ∧ T.un.unEs es' = T.un.unEs es := by
  intro sz es h
  match y, h with
  | .v x, h => simp [T.un] at h
  | .sl true a [], h => simp [T.un] at h
  | .sl true a (b :: r), h => simp [T.un] at h
  | .sl false a es', h => rw [un_sl] at h; simp only [T.sl.injEq, true_and] at h; exact ⟨es', by rw [h.1], h.2⟩
theorem VT.un {RO : Nat → Prop} {w : World} {x : T} {v : Value} (h : VT RO w x v) : ∀ y : T, y.un = x.un → VT RO w y v := by
  induction h with
  | v x h =>
    intro y hy
    match y, hy with
    | .v z, hy => simp only [T.un, T.v.injEq] at hy; subst hy; exact .v _ h
    | .sl true a [], hy => simp [T.un] at hy
    | .sl true a (b :: r), hy => simp [T.un] at hy
    | .sl false a es, hy => rw [un_sl] at hy; simp [T.un] at hy
  | nil sz =>
    intro y hy
    match y, hy with
    | .v z, hy => simp [T.un] at hy
    | .sl true a [], hy => exact .nil a
    | .sl true a (b :: r), hy => simp [T.un, T.un.unEs] at hy
    | .sl false a es, hy => rw [un_sl] at hy; simp [T.un] at hy
  | emp sz a c hc =>
    intro y hy
    obtain ⟨es', rfl, h2⟩ := un_inv (y := y) (sz := sz) (es := []) (by rw [hy]; rfl)
    have := (unEs_get h2).1
    have : es' = [] := List.eq_nil_of_length_eq_zero (by simpa using this)
    subst this; exact .emp sz a c hc
  | sl sz es b off c u hb hc hm hsz hcell hv ih =>
    intro y hy
    rw [un_sl] at hy
    obtain ⟨es', rfl, h2⟩ := un_inv hy
    obtain ⟨hl, hg⟩ := unEs_get h2
    rw [← hl] at hc ⊢
    refine .sl sz es' b off c u hb hc hm (fun i e hi => ?_) (fun i e j x hi hj => ?_) fun i e j x hi hj => ?_
    · obtain ⟨e0, h3, h4⟩ := hg i e hi
      rw [(unEl_get h4).1]; exact hsz i e0 h3
    · obtain ⟨e0, h3, h4⟩ := hg i e hi
      obtain ⟨x0, h5, _⟩ := (unEl_get h4).2 j x hj
      exact hcell i e0 j x0 h3 h5
    · obtain ⟨e0, h3, h4⟩ := hg i e hi
      obtain ⟨x0, h5, h6⟩ := (unEl_get h4).2 j x hj
      exact ih i e0 j x0 h3 h5 x h6

/-! ### Closing -/
def allRO (RO : Nat → Prop) (β : K → Nat) (ro : Fr) (b : Nat) : Prop := RO b ∨ ∃ s o, look ro s = some o ∧ b = β (.cur s)

theorem get_out {out : List Fr} {ro : Fr} : ∀ {k : K} {o : Ob}, St.get ⟨out, []⟩ k = some o → St.get ⟨out, ro⟩ k = some o ∧ k.isFr = true
  | .cur s, o, h => by simp [St.get, look] at h
  | .fr i s, o, h => ⟨h, rfl⟩
  | .sub k i, o, h => by
    obtain ⟨eo, e, sz, rs, es, hg, hi, rfl⟩ := St.get_sub h
    obtain ⟨h1, h2⟩ := get_out (ro := ro) hg
    exact ⟨by simp only [St.get, h1, hi], h2⟩

theorem WR.close {w0 w : World} {β0 β : K → Nat} {RO0 RO : Nat → Prop} {out : List Fr} {ro : Fr} (h : WR (entP β0 RO0 w0) β RO ⟨out, ro⟩ w) : WR (entP β0 RO0 w0) β (allRO RO β ro) ⟨out, []⟩ w := by
  have hro : ∀ b, RO b → allRO RO β ro b := fun b hb => .inl hb
  have hcan : ∀ k o, St.get ⟨out, []⟩ k = some o → ¬ (entP β0 RO0 w0).can k := fun k o hk hc => by
    have := hc (get_out (ro := ro) hk).2
    cases this
  refine ⟨h.os, h.tape, h.output, h.size, h.keep, fun b hb => ?_, fun b hb => hro b (h.ro0 b hb), fun b hb => ?_, fun k o hk => (h.obj k o (get_out hk).1).ro hro, fun k o hk hc => (hcan k o hk hc).elim, fun k k' o o' hk hk' hc _ _ => (hcan k o hk hc).elim, fun k o hk hc => (hcan k o hk hc).elim, fun k o hk hc => hro _ (h.fzRO k o (get_out hk).1 hc), h.stay⟩
  · rcases hb with hb | ⟨s, o, hs, rfl⟩
    · exact h.roLt b hb
    · exact (h.obj (.cur s) o hs).lt
  · rcases hb with hb | ⟨s, o, hs, rfl⟩
    · exact h.roNew b hb
    · exact .inr ((h.objNew (.cur s) o hs (fun hc => by cases hc)).symm.imp id id)

/-- A value, its own row told as closed data. -/
inductive ClsV (ro : Fr) : LV → LV → Prop
  | same (x : T) : ClsV ro (.t x) (.t x)
  | row (s e sz off len : Nat) (es : List (List T)) (h : look ro s = some (.row e sz es)) (hl : off + len ≤ es.length) : ClsV ro (.osl (.cur s) sz off len) (.t (.sl false sz ((es.drop off).take len)))
  | nil (a b : Nat) : ClsV ro (.t (.sl true a [])) (.t (.sl true b []))
  | triple (a a' b b' c c' : LV) (h1 : ClsV ro a a') (h2 : ClsV ro b b') (h3 : ClsV ro c c') : ClsV ro (.tup [a, b, c]) (.tup [a', b', c'])
  | pair (a a' b b' : LV) (h1 : ClsV ro a a') (h2 : ClsV ro b b') : ClsV ro (.tup [a, b]) (.tup [a', b'])
  | agg (xs ys : List LV) (hl : xs.length = ys.length) (h : ∀ (i : Nat) (x y : LV), xs[i]? = some x → ys[i]? = some y → ClsV ro x y) : ClsV ro (.agg xs) (.agg ys)
  | un (x y : T) (h : y.un = x.un) : ClsV ro (.t x) (.t y)
  | trans (a b c : LV) (h1 : ClsV ro a b) (h2 : ClsV ro b c) : ClsV ro a c

theorem ClsV.vl' {w0 w : World} {β0 β : K → Nat} {RO0 RO : Nat → Prop} {out : List Fr} {ro : Fr} (h : WR (entP β0 RO0 w0) β RO ⟨out, ro⟩ w) {x y : LV} (hc : ClsV ro x y) : ∀ {v : Value}, VL β (allRO RO β ro) w x v → VL β (allRO RO β ro) w y v := by
  induction hc with
  | same x => intro v hv; exact hv
  | row s e sz off len es hs hl =>
    intro v hv
    have hk : St.get ⟨out, ro⟩ (.cur s) = some (.row e sz es) := hs
    exact .t _ _ (snap (fun _ h => h) (.inr ⟨s, _, hs, rfl⟩) ((h.obj (.cur s) _ hk).ro fun b hb => .inl hb) hv hl)
  | nil a b => intro v hv; exact nil_sz _ _ _ _ hv
  | triple a a' b b' c c' _ _ _ ih1 ih2 ih3 =>
    intro v hv
    cases hv with
    | tup _ vs hl hvs =>
    refine .tup _ vs (by simpa using hl) fun i x u hx hu => ?_
    match i with
    | 0 => simp at hx; subst hx; exact ih1 (hvs 0 a u rfl hu)
    | 1 => simp at hx; subst hx; exact ih2 (hvs 1 b u rfl hu)
    | 2 => simp at hx; subst hx; exact ih3 (hvs 2 c u rfl hu)
    | i + 3 => simp at hx
  | pair a a' b b' _ _ ih1 ih2 =>
    intro v hv
    cases hv with
    | tup _ vs hl hvs =>
    refine .tup _ vs (by simpa using hl) fun i x u hx hu => ?_
    match i with
    | 0 => simp at hx; subst hx; exact ih1 (hvs 0 a u rfl hu)
    | 1 => simp at hx; subst hx; exact ih2 (hvs 1 b u rfl hu)
    | i + 2 => simp at hx
  | agg xs ys hl h ih =>
    intro v hv
    cases hv with
    | agg _ vs hl' hvs h1 =>
    refine .agg _ vs (by omega) (fun i y u hy hu => ?_) h1
    have hi : i < xs.length := by rw [hl]; exact (List.getElem?_eq_some_iff.1 hy).1
    exact ih i _ y (List.getElem?_eq_getElem hi) hy (hvs i _ u (List.getElem?_eq_getElem hi) hu)
  | un x y h =>
    intro v hv
    cases hv with
    | t _ _ hv => exact .t _ _ (hv.un _ h)
  | trans _ _ _ _ _ ih1 ih2 => intro v hv; exact ih2 (ih1 hv)
theorem ClsV.vl {w0 w : World} {β0 β : K → Nat} {RO0 RO : Nat → Prop} {out : List Fr} {ro : Fr} (h : WR (entP β0 RO0 w0) β RO ⟨out, ro⟩ w) {x y : LV} (hc : ClsV ro x y) {v : Value} (hv : VL β RO w x v) : VL β (allRO RO β ro) w y v :=
  hc.vl' h (hv.ro fun _ hb => .inl hb)

theorem SpecP.close {P : Program} {f : Nat} {args : List LV} {out : List Fr} {Post Post' : LV → Fr → Prop} (h : SpecP P f args out Post) (hp : ∀ r ro, Post r ro → ∃ r', ClsV ro r r' ∧ Post' r' []) : SpecP P f args out Post' :=
  ⟨h.fn, fun β RO w vals hw hv => (h.calls β RO w vals hw hv).mono fun e w' ⟨v, r, ro, out', β', RO', he, h1, h2, h3⟩ => by
    obtain ⟨r', hc, hp'⟩ := hp r ro h1
    exact ⟨v, r', [], out', β', _, he, hp', h2.close, hc.vl h2 h3⟩⟩

/-- What was gathered, told as closed data. -/
theorem acc_cls {s e sz : Nat} {es : List (List T)} {ro : Fr} (h : ∀ x r, es = x :: r → look ro s = some (.row e sz es)) : ClsV ro (accV s sz es) (.t (.sl es.isEmpty sz es)) := by
  cases es with
  | nil => exact .nil 0 sz
  | cons x r =>
    have := ClsV.row (ro := ro) s e sz 0 (x :: r).length (x :: r) (h x r rfl) (by simp)
    rw [List.drop_zero, List.take_of_length_le (Nat.le_refl _)] at this
    exact this

end Go.Fw

/- What the program's functions do: the rules of a task. -/
namespace Go.Fw
open Go Go.Proofs
set_option maxRecDepth 10000

theorem SpecP.conv {P : Program} {f : Nat} {args args' : List LV} {out : List Fr} {Post : LV → Fr → Prop} (hxy : ∀ (β : K → Nat) (RO : Nat → Prop) (w : World) (vals : List Value), Vals β RO w args vals → Vals β RO w args' vals) (h : SpecP P f args' out Post) : SpecP P f args out Post :=
  ⟨h.fn, fun β RO w vals hw hv => h.calls β RO w vals hw (hxy β RO w vals hv)⟩
structure RX where
  act : Int
  to : Int
  frm : List Int
def slI (l : List Int) : T := match l with
  | [] => .sl true 0 []
  | x :: r => .sl false 1 ((x :: r).map tI)
def tRX (r : RX) : List T := [.v (.int .i64 r.act), .v (.int .i64 r.to), slI r.frm]
def addN (l : List Int) (x : Int) : List Int := if l.any (x == ·) then l else l ++ [x]
def dedupI (l : List Int) : List Int := l.foldl addN []
def ruleOf (i : Int) (a : Actn) (e : Eff) : RX := ⟨i, codeI e.lit, dedupI ((a.pre ++ e.when_).map codeI)⟩
def rulesAt (t : Task) (i : Nat) : List RX := match t.acts[i]? with
  | some a => a.effs.map (ruleOf i a)
  | none => []
def rulesUp (t : Task) (i : Nat) : List RX := (List.range i).flatMap (rulesAt t)
def rulesX (t : Task) : List RX := rulesUp t t.acts.length
theorem rulesUp_succ (t : Task) (i : Nat) : rulesUp t (i + 1) = rulesUp t i ++ rulesAt t i := by simp [rulesUp, List.range_succ]
theorem dedup_snoc (l : List Int) (x : Int) : dedupI (l ++ [x]) = addN (dedupI l) x := by simp [dedupI]
theorem addN_len (l : List Int) (x : Int) : (addN l x).length ≤ l.length + 1 := by unfold addN; split <;> simp
theorem foldl_addN_len (l : List Int) : ∀ m : List Int, (l.foldl addN m).length ≤ m.length + l.length := by
  induction l with
  | nil => intro m; simp
  | cons x r ih => intro m; have := ih (addN m x); have := addN_len m x; simp; omega
theorem dedup_len (l : List Int) : (dedupI l).length ≤ l.length := by have := foldl_addN_len l []; simpa [dedupI] using this
theorem rulesAt_len {t : Task} (K : TaskOK t) (i : Nat) : (rulesAt t i).length ≤ 100 := by
  unfold rulesAt
  split
  · rename_i a h; rw [List.length_map]; exact K.effs a (List.mem_of_getElem? h)
  · exact Nat.zero_le _
theorem rulesUp_len {t : Task} (K : TaskOK t) : ∀ i, (rulesUp t i).length ≤ 100 * i
  | 0 => by simp [rulesUp]
  | i + 1 => by have := rulesUp_len K i; have := rulesAt_len K i; rw [rulesUp_succ, List.length_append]; omega

theorem f30n_spec (x : Int) (out : List Fr) : SpecP Try.prog 30 [.t (.sl true 0 []), .int x] out fun r ro => r = .bool false ∧ ro = [] :=
  SpecP.conv (args' := [.ints true [], .int x]) (fun β RO w vals hv => ⟨hv.1, fun i z v hz hvz => by
    match i with
    | 0 => simp at hz; subst hz; exact nil_sz _ _ _ _ (hv.2 0 _ v rfl hvz)
    | 1 => exact hv.2 1 z v hz hvz
    | i + 2 => simp at hz⟩) (f30_spec true [] x out)
def od39 : Od := [(9, [(0, .tree (.pure 0 (.pure 1 (.pure 3 (.pure 4 (.pure 7 (.last 2 (.last 5 (.pure 6 .done) [7]) [3, 4, 7])))))))]), (12, [(0, .tree (.pure 0 (.pure 1 (.pure 2 (.last 3 (.last 4 (.pure 5 .done) []) [0, 1])))))]), (13, [(0, .tree (.pure 0 (.pure 1 (.pure 2 (.last 3 (.eff 4 (.last 5 (.pure 6 (.last 7 .done [])) [])) [0, 1])))))])]
def kp39 : Kp := [(3, ([3, 12, 13, 14], [8, 472])), (6, ([3, 4, 5, 12, 13, 14, 20, 21, 22], [8, 40, 472])), (10, ([3, 4, 5, 8, 12, 13, 14, 20, 21, 22, 36, 37, 38], [8, 40, 64, 424, 265000835, 288, 472]))]
abbrev cellsAct (a : Actn) : List LV := [.t (.v (.string a.name)), .t (.v (.int .i64 a.cost)), .t (.sl a.pn 2 (a.pre.map tLit)), .t (.sl a.en 3 (a.effs.map tEff))]
theorem big_in {t : Task} (K : TaskOK t) {l : Lit} (h : litIn t.facts.length l) : big l.fact := ⟨by have := h.1; omega, by have := h.2; have := K.facts; omega⟩
theorem task_pre {t : Task} (h : isB t = true) {i : Nat} (hi : i < t.acts.length) : condB t.acts[i].pre t.facts.length = true ∧ ∀ e ∈ t.acts[i].effs, condB e.when_ t.facts.length = true := by
  simp only [isB, Bool.and_eq_true, decide_eq_true_eq] at h
  have h6 := List.all_eq_true.1 h.1.2 _ (List.getElem_mem hi)
  simp only [actB, Bool.and_eq_true, decide_eq_true_eq] at h6
  refine ⟨h6.1.1.2, fun e he => ?_⟩
  have := List.all_eq_true.1 h6.2 e he
  simp only [effB, Bool.and_eq_true, decide_eq_true_eq] at this
  exact this.1.1
theorem cond_len {l : List Lit} {n : Nat} (h : condB l n = true) (hn : (n : Int) ≤ 1000000000) : l.length ≤ 1000000000 := by
  have := rising_len h hn
  rwa [List.length_map] at this
set_option maxHeartbeats 1000000 in
theorem f39o_spec (t : Task) (ht : isB t = true) (out : List Fr) : SpecP Try.prog 39 [.task t] out fun r ro => r = accV 472 3 ((rulesX t).map tRX) ∧ ro = accO 472 76 3 ((rulesX t).map tRX) := by
  refine spec_body cx_ok kp39 od39 (fn := Try.f39) (by kernel_rfl) rfl (by kernel_rfl) rfl (by unfold FnOK; kernel_rfl) fun hok => ?_
  have K := task_ok ht
  have hA := K.acts
  refine LoopW.mk (Nat × List RX) (fun p => p.1 ≤ t.acts.length ∧ p.2 = rulesUp t p.1) (fun p => [(3, accV 472 3 (p.2.map tRX)), (12, .t (.sl t.an 4 (t.acts.map tAct))), (13, .int (t.acts.map tAct).length), (14, .int p.1)])
    (fun p => ⟨out, (8, .box (cellsTask t)) :: accO 472 76 3 (p.2.map tRX)⟩) (fun p => t.acts.length - p.1) (0, []) ⟨Nat.zero_le _, rfl⟩ ⟨rfl, rfl⟩ ?_
  rintro ⟨i, acc⟩ ⟨hi0, hacc⟩
  simp only at hi0 hacc
  have hst : i < t.acts.length → rulesUp t (i + 1) = acc ++ rulesAt t i := fun _ => by rw [rulesUp_succ, hacc]
  have hal := rulesUp_len K i
  rw [← hacc] at hal
  cases acc
  case' nil => let O : List RX := []
  case' cons x r => let O : List RX := x :: r
  all_goals
    refine And.intro (fun h1 => ?_) fun h1 => ?_
    rotate_left
    · have hi : i = t.acts.length := by have := ge_of_dec h1; omega
      refine Exists.intro [472] ⟨?_, ?_⟩
      · rw [rulesX, ← hi, ← hacc]; rfl
      · rw [rulesX, ← hi, ← hacc]; rfl
    have hi : i < t.acts.length := lt_of_dec h1
    have hmem : t.acts[i] ∈ t.acts := List.getElem_mem hi
    refine And.intro (by omega) (Exists.intro _ (And.intro (get_map hi) ?_))
    have hra : rulesAt t i = t.acts[i].effs.map (ruleOf i t.acts[i]) := by unfold rulesAt; rw [List.getElem?_eq_getElem hi]
    have hpre : condB t.acts[i].pre t.facts.length = true := (task_pre ht hi).1
    have hpl := cond_len (task_pre ht hi).1 (by have := K.facts; omega)
    refine LoopW.mk (Nat × List RX) (fun p => p.1 ≤ t.acts[i].effs.length ∧ p.2 = O ++ (rulesAt t i).take p.1)
      (fun p => [(3, accV 472 3 (p.2.map tRX)), (4, .int i), (5, .ptr (.cur 40) 0), (12, .t (.sl t.an 4 (t.acts.map tAct))), (13, .int (t.acts.map tAct).length), (14, .int i), (20, .t (.sl t.acts[i].en 3 (t.acts[i].effs.map tEff))), (21, .int (t.acts[i].effs.map tEff).length), (22, .int p.1)])
      (fun p => ⟨out, (8, .box (cellsTask t)) :: (40, .box (cellsAct t.acts[i])) :: accO 472 76 3 (p.2.map tRX)⟩) (fun p => t.acts[i].effs.length - p.1) (0, O) ⟨Nat.zero_le _, by simp [O]⟩ ⟨rfl, rfl⟩ ?_
    rintro ⟨j, acc2⟩ ⟨hj0, hacc2⟩
    simp only at hj0 hacc2
    cases acc2
    case' nil => let O2 : List RX := []
    case' cons x2 r2 => let O2 : List RX := x2 :: r2
    all_goals
      refine And.intro (fun h2 => ?_) fun h2 => ?_
      rotate_left
      · have hj : j = t.acts[i].effs.length := by have := ge_of_dec h2; omega
        refine And.intro (by omega) (And.intro (by omega) ?_)
        refine Exists.intro (i + 1, O2) (And.intro (by show t.acts.length - (i + 1) < t.acts.length - i; omega) (And.intro ⟨hi, ?_⟩ (And.intro rfl rfl)))
        rw [hst hi]
        have e : (rulesAt t i).take j = rulesAt t i := by rw [hj, hra]; exact List.take_of_length_le (by simp)
        rw [e] at hacc2
        exact hacc2
      have hj : j < t.acts[i].effs.length := lt_of_dec h2
      have hje : t.acts[i].effs[j] ∈ t.acts[i].effs := List.getElem_mem hj
      have hE := K.effs _ hmem
      refine And.intro (by omega) (Exists.intro _ (And.intro (get_map hj) ?_))
      refine SpecP.mono (f29_spec t.acts[i].effs[j].lit (big_in K (K.lit _ hmem _ hje)) []) ?_
      rintro _ _ ⟨rfl, rfl⟩
      have hwl := cond_len ((task_pre ht hi).2 _ hje) (by have := K.facts; omega)
      refine SpecP.mono (f62_spec t.acts[i].pn t.acts[i].pre hpl []) ?_
      rintro r0 ro0 h62
      have hrule : (rulesAt t i).take (j + 1) = (rulesAt t i).take j ++ [⟨i, codeI t.acts[i].effs[j].lit, dedupI ((t.acts[i].pre ++ t.acts[i].effs[j].when_).map codeI)⟩] := by
        rw [hra, List.take_add_one]; simp [hj, ruleOf]
      have hlit : ∀ x ∈ t.acts[i].pre ++ t.acts[i].effs[j].when_, big x.fact := fun x hx => by
        rcases List.mem_append.1 hx with hx | hx
        · exact big_in K (K.pre _ hmem x hx)
        · exact big_in K (K.whn _ hmem _ hje x hx)
      rcases h62 with ⟨hn1, hn2, rfl, rfl⟩ | ⟨hn1, rfl, rfl⟩
      case' inl =>
        repeat (refine And.intro rfl ?_)
        rw [hn2, List.nil_append] at hlit hrule
        generalize t.acts[i].effs[j].when_ = W at hlit hrule hwl ⊢
        cases W
        case' nil =>
          repeat (refine And.intro rfl ?_)
          let L : List Lit := []
          let es : List (List T) := []
          let n36 : Nat := 0
          let V36 : LV := .t (.sl true 0 [])
          let R : Fr := []
          have hes : es = L.map tLit := rfl
          have hn36 : n36 = L.length := rfl
          have hLl : L.length ≤ 2000000000 := by simp [L]
        case' cons xw rw =>
          refine And.intro (by simp at hwl ⊢; omega) (And.intro (by simp at hwl ⊢; omega) ?_)
          repeat (refine And.intro rfl ?_)
          let L : List Lit := xw :: rw
          let es : List (List T) := (xw :: rw).map tLit
          let n36 : Nat := es.length
          let V36 : LV := .osl (.cur 288) 2 0 n36
          let R : Fr := [(288, .row 51 2 es)]
          have hes : es = L.map tLit := rfl
          have hn36 : n36 = L.length := by simp [n36, hes]
          have hLl : L.length ≤ 2000000000 := by simp [L] at hwl ⊢; omega
      case' inr =>
        repeat (refine And.intro rfl ?_)
        refine And.intro (by simp; omega) (And.intro (by simp; omega) ?_)
        repeat (refine And.intro rfl ?_)
        let L : List Lit := t.acts[i].pre ++ t.acts[i].effs[j].when_
        let es : List (List T) := t.acts[i].pre.map tLit ++ t.acts[i].effs[j].when_.map tLit
        let n36 : Nat := es.length
        let V36 : LV := .osl (.cur 265000835) 2 0 n36
        let R : Fr := [(265000835, .row 51 2 es)]
        have hes : es = L.map tLit := by simp [es, L]
        have hn36 : n36 = L.length := by simp [n36, hes]
        have hLl : L.length ≤ 2000000000 := by simp [L]; omega
      all_goals
        refine LoopW.mk (Nat × List Int) (fun p => p.1 ≤ L.length ∧ p.2 = dedupI ((L.take p.1).map codeI))
          (fun p => [(3, accV 472 3 (O2.map tRX)), (4, .int i), (5, .ptr (.cur 40) 0), (8, .ptr (.cur 64) 0), (12, .t (.sl t.an 4 (t.acts.map tAct))), (13, .int (t.acts.map tAct).length), (14, .int i), (20, .t (.sl t.acts[i].en 3 (t.acts[i].effs.map tEff))), (21, .int (t.acts[i].effs.map tEff).length), (22, .int j), (36, V36), (37, .int n36), (38, .int p.1)])
          (fun p => ⟨out, (8, .box (cellsTask t)) :: (40, .box (cellsAct t.acts[i])) :: (64, .box [.int i, .int (codeI t.acts[i].effs[j].lit), accV 424 1 (p.2.map tI)]) :: (accO 424 3 1 (p.2.map tI) ++ (R ++ accO 472 76 3 (O2.map tRX)))⟩) (fun p => L.length - p.1) (0, []) ⟨Nat.zero_le _, rfl⟩ ⟨rfl, rfl⟩ ?_
        rintro ⟨k, fr⟩ ⟨hk0, hfr⟩
        simp only at hk0 hfr
        cases fr
        case' nil =>
          let F2 : List Int := []
          let TT : T := .sl true 0 []
        case' cons x3 r3 =>
          let F2 : List Int := x3 :: r3
          let TT : T := .sl false 1 (List.take (tI x3 :: List.map tI r3).length (List.drop 0 (tI x3 :: List.map tI r3)))
        all_goals
          refine And.intro (fun h3 => ?_) fun h3 => ?_
          rotate_left
          · have hk : k = L.length := by
              have h3' : ¬ ((k : Int) < (n36 : Int)) := by simpa using h3
              rw [hn36] at h3'; omega
            have hfr2 : F2 = dedupI (L.map codeI) := by rw [hk, List.take_length] at hfr; exact hfr
            have hfl : F2.length ≤ L.length := by rw [hfr2]; have := dedup_len (L.map codeI); simpa using this
            have hO2 : O2.length ≤ 200000 := by
              have e1 : O2.length = O.length + ((rulesAt t i).take j).length := by rw [show O2 = O ++ (rulesAt t i).take j from hacc2, List.length_append]
              have e2 := rulesAt_len K i
              have e3 : O.length ≤ 100 * i := hal
              rw [List.length_take] at e1
              omega
            let n : RX := ⟨i, codeI t.acts[i].effs[j].lit, F2⟩
            have hinv : O2 ++ [n] = O ++ (rulesAt t i).take (j + 1) := by rw [hrule, show O2 = O ++ (rulesAt t i).take j from hacc2, List.append_assoc]; simp [n, hfr2, L]
            have en : tRX n = [.v (.int .i64 i), .v (.int .i64 (codeI t.acts[i].effs[j].lit)), TT] := by
              first
                | rfl
                | (show [_, _, T.sl false 1 _] = [_, _, T.sl false 1 _]; rw [← take_all]; rfl)
            have er : ∀ rr : List RX, (rr ++ [n]).map tRX = rr.map tRX ++ [[.v (.int .i64 i), .v (.int .i64 (codeI t.acts[i].effs[j].lit)), TT]] := fun rr => by rw [List.map_append, ← en]; rfl
            have hl3 : ∀ X : List T, ((O2.map tRX) ++ [X]).length ≤ 200001 := fun X => by simp; omega
            repeat first
              | refine And.intro (Nat.le_of_ble_eq_true rfl) ?_
              | refine And.intro (by omega) ?_
              | refine And.intro rfl ?_
              | refine And.intro (Nat.le_trans (Nat.mul_le_mul_right _ (hl3 _)) (Nat.le_of_ble_eq_true rfl)) ?_
              | refine And.intro (Nat.le_trans (hl3 _) (Nat.le_of_ble_eq_true rfl)) ?_
            first
              | (refine Exists.intro (j + 1, [n]) (And.intro (by show t.acts[i].effs.length - (j + 1) < t.acts[i].effs.length - j; omega) (And.intro ⟨hj, hinv⟩ ?_))
                 simp only [List.map_cons, en]
                 exact And.intro rfl rfl)
              | (refine Exists.intro (j + 1, x2 :: (r2 ++ [n])) (And.intro (by show t.acts[i].effs.length - (j + 1) < t.acts[i].effs.length - j; omega) (And.intro ⟨hj, hinv⟩ ?_))
                 simp only [List.map_cons, er]
                 exact And.intro rfl rfl)
          · have hk : k < L.length := by rw [← hn36]; simpa using h3
            have hel : es[0 + ((k : Int)).toNat]? = some (tLit L[k]) := by rw [Nat.zero_add, Int.toNat_natCast, hes, List.getElem?_map, List.getElem?_eq_getElem hk]; rfl
            first
              | exact absurd hk (Nat.not_lt_zero k)
              | (refine And.intro (by omega) (And.intro (by rw [hn36]; omega) (Exists.intro _ (And.intro hel (And.intro (Nat.le_refl 2) ?_))))
                 refine SpecP.mono (f29_spec L[k] (hlit _ (List.getElem_mem hk)) []) ?_
                 rintro _ _ ⟨rfl, rfl⟩
                 repeat (refine And.intro rfl ?_)
                 first
                   | refine SpecP.mono (f30n_spec (codeI L[k]) []) ?_
                   | (refine Exists.intro ((x3 :: r3).map tI) (And.intro take_all.symm.symm (And.intro (Nat.le_of_eq (Nat.zero_add _)) ?_))
                      refine SpecP.mono (f30_spec false (x3 :: r3) (codeI L[k]) _) ?_)
                 rintro _ _ ⟨rfl, rfl⟩
                 have hstep : dedupI ((L.take (k + 1)).map codeI) = addN F2 (codeI L[k]) := by
                   rw [List.take_add_one, List.getElem?_eq_getElem hk]
                   show dedupI (List.map codeI (L.take k ++ [L[k]])) = _
                   rw [List.map_append]
                   show dedupI (List.map codeI (L.take k) ++ [codeI L[k]]) = _
                   rw [dedup_snoc, ← hfr]
                 first
                   | refine And.intro trivial (And.intro trivial (And.intro (fun h4 => ?_) fun h4 => ?_))
                   | refine And.intro (fun h4 => ?_) fun h4 => ?_
                 · first
                     | exact absurd h4 (by decide)
                     | (refine And.intro (by omega) (And.intro (by omega) ?_)
                        refine Exists.intro (k + 1, F2) (And.intro (by show L.length - (k + 1) < L.length - k; omega) (And.intro ⟨hk, ?_⟩ (And.intro rfl rfl)))
                        show F2 = _
                        rw [hstep, addN, if_pos h4])
                 · refine SpecP.mono (f29_spec L[k] (hlit _ (List.getElem_mem hk)) []) ?_
                   rintro _ _ ⟨rfl, rfl⟩
                   repeat (refine And.intro rfl ?_)
                   have hfl : F2.length ≤ L.length := by
                     have e1 : F2 = dedupI ((L.take k).map codeI) := hfr
                     rw [e1]
                     have := dedup_len ((L.take k).map codeI)
                     simp at this ⊢; omega
                   have hl4 : ∀ X : List T, ((F2.map tI) ++ [X]).length ≤ 2000000001 := fun X => by simp; omega
                   repeat first
                     | refine And.intro (Nat.le_of_ble_eq_true rfl) ?_
                     | refine And.intro (by omega) ?_
                     | refine And.intro rfl ?_
                     | refine And.intro (Nat.le_trans (Nat.mul_le_mul_right _ (hl4 _)) (Nat.le_of_ble_eq_true rfl)) ?_
                     | refine And.intro (Nat.le_trans (hl4 _) (Nat.le_of_ble_eq_true rfl)) ?_
                   have hnew : F2 ++ [codeI L[k]] = dedupI ((L.take (k + 1)).map codeI) := by rw [hstep, addN, if_neg (by rw [show (F2.any fun x => codeI L[k] == x) = false from h4]; decide)]
                   first
                     | (refine Exists.intro (k + 1, [codeI L[k]]) (And.intro (by show L.length - (k + 1) < L.length - k; omega) (And.intro ⟨hk, hnew⟩ (And.intro rfl rfl))))
                     | (refine Exists.intro (k + 1, x3 :: (r3 ++ [codeI L[k]])) (And.intro (by show L.length - (k + 1) < L.length - k; omega) (And.intro ⟨hk, hnew⟩ ?_))
                        have e : (r3 ++ [codeI L[k]]).map tI = r3.map tI ++ [tI (codeI L[k])] := by simp
                        simp only [List.map_cons, e]
                        exact And.intro rfl rfl))

end Go.Fw

/- What the program's functions do: the rules as closed data; what offers a value to a literal. -/
namespace Go.Fw
open Go Go.Proofs Heap
set_option maxRecDepth 10000

def tRY (r : RX) : List T := [.v (.int .i64 r.act), .v (.int .i64 r.to), .sl r.frm.isEmpty 1 (r.frm.map tI)]
theorem un_sl' {b : Bool} {sz : Nat} {es : List (List T)} (h : b = false) : (T.sl b sz es).un = .sl false sz (T.un.unEs es) := by subst h; exact un_sl
theorem un_slI (l : List Int) : (T.sl l.isEmpty 1 (l.map tI)).un = (slI l).un := by cases l <;> rfl
theorem un_RY (l : List RX) : T.un.unEs (l.map tRY) = T.un.unEs (l.map tRX) := by
  induction l with
  | nil => rfl
  | cons r l ih =>
    simp only [List.map_cons, T.un.unEs, ih]
    congr 1
    simp only [tRY, tRX, T.un.unEl, un_slI]
theorem f39_spec (t : Task) (ht : isB t = true) (out : List Fr) : SpecP Try.prog 39 [.task t] out fun r ro => r = .t (.sl (rulesX t).isEmpty 3 ((rulesX t).map tRY)) ∧ ro = [] :=
  (f39o_spec t ht out).close fun r ro ⟨h1, h2⟩ => by
    refine ⟨_, ?_, rfl, rfl⟩
    rw [h1, h2]
    refine .trans _ _ _ (acc_cls fun x r he => by rw [he]; exact look_cons .. |>.trans (if_pos rfl)) (.un _ _ ?_)
    cases hx : rulesX t with
    | nil => rfl
    | cons x r =>
      show (T.sl false 3 ((x :: r).map tRY)).un = (T.sl false 3 ((x :: r).map tRX)).un
      rw [un_sl, un_sl, un_RY]

/-! ### Offers -/
abbrev rowI (l : List Int) : Ob := .row 3 1 (l.map tI)
abbrev boxE (n : Nat) (o : List Int) : Ob := .box [.osl (.cur 22) 1 0 n, .osl (.cur 23) 1 0 n, accV 29 1 (o.map tI)]
abbrev frO (n : Nat) (d : Dj) : Fr := (21, boxE n d.order) :: (22, rowI d.v) :: (23, rowI d.by_) :: (24, .box [.osl (.cur 25) 1 0 n]) :: (25, rowI d.best) :: (26, .box [.ifc 84 (.ptr (.cur 27) 0)]) :: (27, .box [.osl (.cur 28) 2 0 d.q.length]) :: (28, rowQ d.q) :: accO 29 3 1 (d.order.map tI)
abbrev pinsO : List (Nat × Nat) := [(21, 1), (24, 1), (26, 1)]
structure LenD (n : Nat) (d : Dj) : Prop where
  v : d.v.length = n
  by_ : d.by_.length = n
  best : d.best.length = n
theorem getI {e : List Int} {k : Nat} (h : k < e.length) : (e.map tI)[0 + ((k : Int)).toNat]? = some (tI (ev e k)) := by
  rw [Nat.zero_add, Int.toNat_natCast, List.getElem?_map, List.getElem?_eq_getElem h]; simp [ev, h]
theorem setI {e : List Int} {k : Nat} {x : Int} : (e.map tI).set (0 + ((k : Int)).toNat) (tI x) = (e.set k x).map tI := by
  rw [Nat.zero_add, Int.toNat_natCast, List.map_set]

def od50 : Od := [(1, [(0, .tree (.pure 0 (.pure 1 (.pure 2 (.pure 3 (.pure 4 (.pure 5 (.pure 6 (.pure 7 (.last 8 (.pure 9 (.last 10 .done [])) [2, 3, 4, 6]))))))))))])]
theorem f50_spec (n : Nat) (d : Dj) (k : Nat) (u b : Int) (hl : LenD n d) (hk : k < n) (hq : d.q.length < 1000000) :
    SpecM Try.prog 50 [.int k, .int u, .int b, .ptr (.cur 21) 0, .ptr (.cur 24) 0, .ptr (.cur 26) 0] (frO n d) pinsO fun r ro => r = .tup [] ∧ ro = frO n (offer d k u b) := by
  have hv := hl.v
  have hb := hl.best
  have hy := hl.by_
  obtain ⟨v, by_, best, order, op, sm, q⟩ := d
  simp only at hv hb hy hq
  cases order
  case' nil => let O : List Int := []
  case' cons x r => let O : List Int := x :: r
  all_goals
    refine specM_walk cxm_ok mH_ok [] od50 (fn := Try.f50) (by kernel_rfl) rfl (by kernel_rfl) rfl (by unfold FnOK; kernel_rfl) rfl fun hok => ?_
    have hkv : k < v.length := by omega
    have es1 : ∀ (l : List Int) (z : Int), (l.set k z).map tI = (l.map tI).set (0 + ((k : Int)).toNat) (tI z) := fun l z => setI.symm
    have hkb : k < best.length := by omega
    have hky : k < by_.length := by omega
    refine And.intro (by omega) (And.intro (by omega) (Exists.intro _ (And.intro (getI hkv) ?_)))
    have ho : offerB ⟨v, by_, best, O, op, sm, q⟩ k u = (decide (ev v k < 0) && (decide (ev best k < 0) || decide (u < ev best k))) := rfl
    refine And.intro (fun h1 => ?_) fun h1 => ?_
    · refine And.intro (by omega) (And.intro (by omega) (Exists.intro _ (And.intro (getI hkb) ?_)))
      refine And.intro (fun h2 => ?_) fun h2 => ?_
      · have hoff : offer ⟨v, by_, best, O, op, sm, q⟩ k u b = ⟨v, by_.set k b, best.set k u, O, op, sm, pushL q (k, u)⟩ := by
          unfold offer; rw [ho, h1, h2]; rfl
        refine And.intro (by omega) (And.intro (by omega) (Exists.intro _ (And.intro (getI hkb) (And.intro (Nat.le_refl 1) ?_))))
        refine And.intro rfl (And.intro rfl (And.intro rfl (And.intro rfl ?_)))
        refine And.intro (by omega) (And.intro (by omega) (Exists.intro _ (And.intro (getI hky) (And.intro (Nat.le_refl 1) ?_))))
        refine ModH.mk [(1, 27), (3, 28)] (f51_spec q (k, u) hq) rfl rfl ⟨rfl, rfl, trivial⟩ ?_
        rintro _ _ ⟨rfl, rfl⟩
        refine And.intro rfl ?_
        refine ⟨rfl, [21, 22, 23, 24, 25, 26, 27, 28, 29], rfl, ?_⟩
        rw [hoff]
        simp only [frO, rowI, es1]
        rfl
      · refine And.intro (by omega) (And.intro (by omega) (Exists.intro _ (And.intro (getI hkb) ?_)))
        refine And.intro (fun h3 => ?_) fun h3 => ?_
        · have hoff : offer ⟨v, by_, best, O, op, sm, q⟩ k u b = ⟨v, by_.set k b, best.set k u, O, op, sm, pushL q (k, u)⟩ := by
            unfold offer; rw [ho, h1, h2, h3]; rfl
          refine And.intro (by omega) (And.intro (by omega) (Exists.intro _ (And.intro (getI hkb) (And.intro (Nat.le_refl 1) ?_))))
          refine And.intro rfl (And.intro rfl (And.intro rfl (And.intro rfl ?_)))
          refine And.intro (by omega) (And.intro (by omega) (Exists.intro _ (And.intro (getI hky) (And.intro (Nat.le_refl 1) ?_))))
          refine ModH.mk [(1, 27), (3, 28)] (f51_spec q (k, u) hq) rfl rfl ⟨rfl, rfl, trivial⟩ ?_
          rintro _ _ ⟨rfl, rfl⟩
          refine And.intro rfl ?_
          refine ⟨rfl, [21, 22, 23, 24, 25, 26, 27, 28, 29], rfl, ?_⟩
          rw [hoff]
          simp only [frO, rowI, es1]
          rfl
        · have hoff : offer ⟨v, by_, best, O, op, sm, q⟩ k u b = ⟨v, by_, best, O, op, sm, q⟩ := by
            unfold offer; rw [ho, h1, h2, h3]; rfl
          rw [hoff]
          exact ⟨rfl, [21, 22, 23, 24, 25, 26, 27, 28, 29], rfl, rfl⟩
    · have hoff : offer ⟨v, by_, best, O, op, sm, q⟩ k u b = ⟨v, by_, best, O, op, sm, q⟩ := by
        unfold offer; rw [ho, h1]; rfl
      rw [hoff]
      exact ⟨rfl, [21, 22, 23, 24, 25, 26, 27, 28, 29], rfl, rfl⟩

end Go.Fw

/- What the program's functions do: a rule offers its value. -/
namespace Go.Fw
open Go Go.Proofs Heap
set_option maxRecDepth 10000

abbrev frF (t : Task) (nl : Bool) (L : List RX) (n m : Nat) (d : Dj) : Fr := (31, .box [.fn 50 [(.cur 21, 0), (.cur 24, 0), (.cur 26, 0)]]) :: (32, .box [.t (.sl nl 3 (L.map tRY))]) :: (33, .box [.osl (.cur 34) 1 0 m]) :: (34, rowI d.sm) :: (35, .box (cellsTask t)) :: frO n d
abbrev pinsF : List (Nat × Nat) := (31, 1) :: (32, 1) :: (33, 1) :: (35, 1) :: pinsO
def od52 : Od := [(0, [(0, .tree (.pure 0 (.pure 1 (.pure 2 (.pure 3 (.pure 4 (.pure 5 (.pure 6 (.pure 7 (.pure 8 (.pure 9 (.pure 10 (.pure 11 (.pure 12 (.pure 13 (.pure 14 (.pure 15 (.pure 16 (.pure 17 (.pure 18 (.pure 19 (.pure 20 (.pure 21 (.pure 22 (.last 23 .done [1, 2, 6, 7, 8, 10, 11, 12, 13, 14, 15, 16, 17, 18])))))))))))))))))))))))))])]
theorem offer_form (v by_ best order op sm : List Int) (q : List Heap.Item) (k : Nat) (u b : Int) : ∃ b1 b2 b3, offer ⟨v, by_, best, order, op, sm, q⟩ k u b = ⟨v, b1, b2, order, op, sm, b3⟩ := by
  unfold offer; split <;> exact ⟨_, _, _, rfl⟩
theorem f52_spec (t : Task) (nl : Bool) (L : List RX) (n m : Nat) (d : Dj) (i a k : Nat) (fr : List Int) (x : Actn) (hl : LenD n d) (hm : d.sm.length = m) (hi : L[i]? = some ⟨a, k, fr⟩) (ha : t.acts[a]? = some x) (him : i < m) (hk : k < n) (hq : d.q.length < 1000000)
    (hs : 0 ≤ ev d.sm i ∧ ev d.sm i ≤ farI) (hx : 0 ≤ x.cost ∧ x.cost ≤ 100000) :
    SpecM Try.prog 52 [.int i, .ptr (.cur 31) 0, .ptr (.cur 32) 0, .ptr (.cur 33) 0, .ptr (.cur 35) 0] (frF t nl L n m d) pinsF fun r ro => r = .tup [] ∧ ro = frF t nl L n m (offer d k (min farI (ev d.sm i + x.cost)) i) := by
  have hu : min farI (ev d.sm i + x.cost) = (if ev d.sm i + x.cost < 1099511627777 then ev d.sm i + x.cost else 1099511627777) := by unfold farI; split <;> omega
  rw [hu]
  have hoff := f50_spec n d k (if ev d.sm i + x.cost < 1099511627777 then ev d.sm i + x.cost else 1099511627777) i hl hk hq
  have hL : (L.map tRY)[((i : Int)).toNat]? = some (tRY ⟨a, k, fr⟩) := by rw [Int.toNat_natCast, List.getElem?_map, hi]; rfl
  have hA : (t.acts.map tAct)[((a : Int)).toNat]? = some (tAct x) := by rw [Int.toNat_natCast, List.getElem?_map, ha]; rfl
  unfold farI at hs
  clear hu hl
  obtain ⟨v, by_, best, order, op, sm, q⟩ := d
  simp only at hm hs
  have hsm : i < sm.length := by omega
  obtain ⟨b1, b2, b3, he⟩ := offer_form v by_ best order op sm q k (if ev sm i + x.cost < 1099511627777 then ev sm i + x.cost else 1099511627777) i
  simp only [he] at hoff ⊢
  cases order
  all_goals
    refine specM_walk cxm_ok mH_ok [] od52 (fn := Try.f52) (by kernel_rfl) rfl (by kernel_rfl) rfl (by unfold FnOK; kernel_rfl) rfl fun hok => ?_
    refine And.intro (by omega) (Exists.intro _ (And.intro hL ?_))
    refine And.intro (by omega) (And.intro (by omega) (Exists.intro _ (And.intro (getI hsm) ?_)))
    refine And.intro (by omega) (Exists.intro _ (And.intro hL ?_))
    refine And.intro (by show (0 : Int) ≤ (a : Int); omega) (Exists.intro _ (And.intro hA ?_))
    refine And.intro (by show (-9223372036854775808 : Int) ≤ ev sm i + x.cost; omega) (And.intro (by show ev sm i + x.cost ≤ 9223372036854775807; omega) ?_)
    refine ModH.mk [(21, 21), (22, 22), (23, 23), (24, 24), (25, 25), (26, 26), (27, 27), (28, 28), (29, 29)] hoff rfl rfl (by first | exact ⟨rfl, rfl, rfl, rfl, rfl, rfl, rfl, rfl, trivial⟩ | exact ⟨rfl, rfl, rfl, rfl, rfl, rfl, rfl, rfl, rfl, trivial⟩) ?_
    rintro _ _ ⟨rfl, rfl⟩
    refine And.intro rfl ?_
    repeat first
      | refine And.intro rfl ?_
      | refine And.intro (by omega) ?_
      | refine Exists.intro _ (And.intro hL ?_)
      | refine Exists.intro _ (And.intro hA ?_)
      | refine And.intro (by show (0 : Int) ≤ (a : Int); omega) ?_
    exact ⟨[31, 32, 33, 34, 35, 21, 22, 23, 24, 25, 26, 27, 28, 29], rfl, rfl⟩

end Go.Fw

/- Estimates: the task's rules; the steps of the search (plain law). -/
namespace Go.Fw
open Go Go.Proofs Heap
set_option maxRecDepth 10000

def ruleE (t : Task) (r : RX) : Rule := ⟨r.act.toNat, r.to.toNat, r.frm.map Int.toNat, match t.acts[r.act.toNat]? with | some x => x.cost | none => 0⟩
def holdsL (s : List Int) (k : Nat) : Bool := hasB s ((k / 2 : Nat) : Int) != decide (k % 2 = 1)
def epOf (t : Task) (s : List Int) : EP := ⟨2 * t.facts.length, holdsL s, (rulesX t).map (ruleE t)⟩

theorem addN_mem {l : List Int} {x y : Int} (h : y ∈ addN l x) : y ∈ l ∨ y = x := by
  unfold addN at h
  split at h
  · exact .inl h
  · simpa using h
theorem mem_addN {l : List Int} {x y : Int} (h : y ∈ l ∨ y = x) : y ∈ addN l x := by
  unfold addN
  split
  · rename_i hx
    rcases h with h | rfl
    · exact h
    · obtain ⟨z, hz, he⟩ := List.any_eq_true.1 hx
      have := eq_of_beq he
      subst this; exact hz
  · simpa using h
theorem addN_nodup {l : List Int} {x : Int} (h : l.Nodup) : (addN l x).Nodup := by
  unfold addN
  split
  · exact h
  · rename_i hx
    rw [List.nodup_append]
    refine ⟨h, by simp, ?_⟩
    intro a ha b hb hab
    simp at hb
    subst hb; subst hab
    exact hx (List.any_eq_true.2 ⟨a, ha, by simp⟩)
theorem dedup_nodup (l : List Int) : (dedupI l).Nodup := by
  have key : ∀ (l m : List Int), m.Nodup → (l.foldl addN m).Nodup := by
    intro l
    induction l with
    | nil => intro m hm; exact hm
    | cons x r ih => intro m hm; exact ih _ (addN_nodup hm)
  exact key l [] List.nodup_nil
theorem mem_dedup {l : List Int} {x : Int} : x ∈ dedupI l ↔ x ∈ l := by
  have key : ∀ (l m : List Int), x ∈ l.foldl addN m ↔ x ∈ m ∨ x ∈ l := by
    intro l
    induction l with
    | nil => intro m; simp
    | cons y r ih =>
      intro m
      rw [List.foldl_cons, ih]
      constructor
      · rintro (h | h)
        · rcases addN_mem h with h | h
          · exact .inl h
          · exact .inr (by simp [h])
        · exact .inr (by simp [h])
      · rintro (h | h)
        · exact .inl (mem_addN (.inl h))
        · rcases List.mem_cons.1 h with h | h
          · exact .inl (mem_addN (.inr h))
          · exact .inr h
  have := key l []
  simpa [dedupI] using this

theorem rulesX_mem {t : Task} {r : RX} (h : r ∈ rulesX t) : ∃ (a : Nat) (x : Actn) (e : Eff), t.acts[a]? = some x ∧ e ∈ x.effs ∧ r = ruleOf (a : Int) x e := by
  unfold rulesX rulesUp at h
  obtain ⟨a, _, ha⟩ := List.mem_flatMap.1 h
  unfold rulesAt at ha
  split at ha
  · rename_i x hx
    obtain ⟨e, he, rfl⟩ := List.mem_map.1 ha
    exact ⟨a, x, e, hx, he, rfl⟩
  · cases ha
theorem mem_rulesX {t : Task} {a : Nat} {x : Actn} {e : Eff} (hx : t.acts[a]? = some x) (he : e ∈ x.effs) : ruleOf (a : Int) x e ∈ rulesX t := by
  unfold rulesX rulesUp
  refine List.mem_flatMap.2 ⟨a, List.mem_range.2 (List.getElem?_eq_some_iff.1 hx).1, ?_⟩
  unfold rulesAt
  rw [hx]
  exact List.mem_map_of_mem he

theorem code_range {n : Nat} {l : Lit} (h : litIn n l) : 0 ≤ codeI l ∧ codeI l < 2 * (n : Int) := by
  obtain ⟨h1, h2⟩ := h
  unfold codeI; split <;> omega

/-- What is known of a rule. -/
structure RuleAt (t : Task) (s : List Int) (i : Nat) (a k : Nat) (fr : List Nat) (x : Actn) : Prop where
  rx : (rulesX t)[i]? = some ⟨(a : Int), (k : Int), fr.map Int.ofNat⟩
  re : (epOf t s).rules[i]? = some ⟨a, k, fr, x.cost⟩
  act : t.acts[a]? = some x
  to : k < 2 * t.facts.length
  frm : ∀ y ∈ fr, y < 2 * t.facts.length
  nd : fr.Nodup
  cost : 0 ≤ x.cost ∧ x.cost ≤ 100000
  pre : ∀ l ∈ x.pre, (codeI l).toNat ∈ fr
  eff : ∃ e ∈ x.effs, (codeI e.lit).toNat = k ∧ ∀ l ∈ e.when_, (codeI l).toNat ∈ fr
theorem rule_at {t : Task} (ht : isB t = true) (s : List Int) {i : Nat} (hi : i < (rulesX t).length) : ∃ a k fr x, RuleAt t s i a k fr x := by
  have K := task_ok ht
  have hm : (rulesX t)[i] ∈ rulesX t := List.getElem_mem hi
  obtain ⟨a, x, e, hx, he, hr⟩ := rulesX_mem hm
  have hxm : x ∈ t.acts := List.mem_of_getElem? hx
  have hlit := code_range (K.lit x hxm e he)
  have hfr : ∀ y ∈ dedupI ((x.pre ++ e.when_).map codeI), 0 ≤ y ∧ y < 2 * (t.facts.length : Int) := fun y hy => by
    obtain ⟨l, hl, rfl⟩ := List.mem_map.1 (mem_dedup.1 hy)
    rcases List.mem_append.1 hl with hl | hl
    · exact code_range (K.pre x hxm l hl)
    · exact code_range (K.whn x hxm e he l hl)
  have hround : (dedupI ((x.pre ++ e.when_).map codeI)).map (fun y => ((y.toNat : Nat) : Int)) = dedupI ((x.pre ++ e.when_).map codeI) := by
    conv => rhs; rw [← List.map_id (dedupI ((x.pre ++ e.when_).map codeI))]
    refine List.map_congr_left fun y hy => ?_
    have := (hfr y hy).1
    show ((y.toNat : Nat) : Int) = y
    omega
  have hget : (rulesX t)[i]? = some (ruleOf (a : Int) x e) := by rw [List.getElem?_eq_getElem hi, hr]
  refine ⟨a, (codeI e.lit).toNat, (dedupI ((x.pre ++ e.when_).map codeI)).map Int.toNat, x, ?_, ?_, hx, by omega, fun y hy => ?_, ?_, K.cost x hxm, fun l hl => List.mem_map_of_mem (mem_dedup.2 (List.mem_map_of_mem (List.mem_append_left _ hl))), e, he, rfl, fun l hl => List.mem_map_of_mem (mem_dedup.2 (List.mem_map_of_mem (List.mem_append_right _ hl)))⟩
  · rw [hget]
    unfold ruleOf
    rw [List.map_map]
    have h1 : codeI e.lit = (((codeI e.lit).toNat : Nat) : Int) := by omega
    have h2 : dedupI ((x.pre ++ e.when_).map codeI) = (dedupI ((x.pre ++ e.when_).map codeI)).map (Int.ofNat ∘ Int.toNat) := hround.symm
    rw [← h2, ← h1]
  · show ((rulesX t).map (ruleE t))[i]? = _
    rw [List.getElem?_map, hget]
    show some (ruleE t (ruleOf (a : Int) x e)) = _
    unfold ruleE ruleOf
    simp only [Int.toNat_natCast, hx]
  · obtain ⟨z, hz, rfl⟩ := List.mem_map.1 hy
    have := hfr z hz
    omega
  · have hd := dedup_nodup ((x.pre ++ e.when_).map codeI)
    unfold List.Nodup at hd ⊢
    rw [List.pairwise_map]
    refine hd.imp_of_mem fun {p q} hp hq hne he => hne ?_
    have := hfr p hp
    have := hfr q hq
    omega
theorem epOf_ok {t : Task} (ht : isB t = true) (s : List Int) : (epOf t s).OK := by
  have all : ∀ r ∈ (epOf t s).rules, ∃ i a k fr x, RuleAt t s i a k fr x ∧ r = ⟨a, k, fr, x.cost⟩ := fun r hr => by
    obtain ⟨i, hi⟩ := List.mem_iff_getElem?.1 hr
    have hlt : i < (rulesX t).length := by
      have := (List.getElem?_eq_some_iff.1 hi).1
      simpa [epOf] using this
    obtain ⟨a, k, fr, x, h⟩ := rule_at ht s hlt
    exact ⟨i, a, k, fr, x, h, Option.some.inj (hi.symm.trans h.re)⟩
  refine ⟨fun r hr => ?_, fun r hr => ?_, fun r hr => ?_, fun r hr => ?_⟩ <;> obtain ⟨i, a, k, fr, x, h, rfl⟩ := all r hr
  · exact h.to
  · exact h.frm
  · exact h.nd
  · exact h.cost

/-! ### Steps -/
theorem Inv.vs {P : EP} {add : Bool} {m : Int} {vs vs' : Nat → List Int} {pr pr' : Nat → Prop} {d : Dj} (h : Inv P add m vs pr d)
    (hv : ∀ (i : Nat) (r : Rule), P.rules[i]? = some r → pr' i → pr i ∧ vs' i = vs i) : Inv P add m vs' pr' d :=
  ⟨h.lv, h.lby, h.lb, h.lop, h.lsm, h.m0, h.low, h.vm, h.lowB, h.q1, h.q2, h.hp, fun i r hi hp => by rw [(hv i r hi hp).2]; exact h.cnt i r hi (hv i r hi hp).1,
    fun i r hi hp => by rw [(hv i r hi hp).2]; exact h.fired i r hi (hv i r hi hp).1, h.b1, h.b2, h.b3, h.nd⟩

/-- Nothing has a value yet. -/
def dj0 (n m : Nat) : Dj := ⟨List.replicate n (-1), List.replicate n (-1), List.replicate n (-1), [], List.replicate m 0, List.replicate m 0, []⟩
theorem ev_rep (n k : Nat) : ev (List.replicate n (-1)) k = -1 := by
  unfold ev
  rw [List.getD_eq_getElem?_getD, List.getElem?_replicate]
  split <;> rfl
theorem inv0 (P : EP) (add : Bool) (vs : Nat → List Int) : Inv P add 0 vs (fun _ => False) (dj0 P.n P.rules.length) := by
  refine ⟨by simp [dj0], by simp [dj0], by simp [dj0], by simp [dj0], by simp [dj0], Int.le_refl _, fun k => ?_, fun k h => ?_, fun k => ?_, fun x hx => ?_, fun k h => ?_, ?_, fun _ _ _ h => h.elim, fun _ _ _ h => h.elim, fun j x h => ?_, fun k _ h => ?_, fun k => ?_, ?_⟩
  · simp only [dj0, ev_rep]; unfold farI; omega
  · simp only [dj0, ev_rep] at h; omega
  · simp only [dj0, ev_rep]; unfold farI; omega
  · cases hx
  · simp only [dj0, ev_rep] at h; omega
  · intro j h1 h2; simp [dj0] at h2
  · simp [dj0] at h
  · simp only [dj0, ev_rep] at h; omega
  · simp only [dj0, ev_rep]; constructor
    · intro h; cases h
    · intro h; omega
  · simp [dj0]

/-- How much is still to be done at most. -/
def mu (d : Dj) : Nat := d.q.length + d.op.countP (fun x => decide (0 < x))
theorem offer_q (d : Dj) (k : Nat) (u b : Int) : (offer d k u b).q.length ≤ d.q.length + 1 := by
  unfold offer
  split
  · rw [show (pushL d.q ((k : Int), u)).length = d.q.length + 1 from ?_]
    · exact Nat.le_refl _
    · have := (up_spec d.q.length (d.q ++ [((k : Int), u)]) (by simp)).2.1
      unfold pushL; rw [this]; simp
  · omega
theorem offer_mu (d : Dj) (k : Nat) (u b : Int) : mu (offer d k u b) ≤ mu d + 1 := by
  have h1 := offer_q d k u b
  have h2 := (offer_v d k u b).2.2.1
  unfold mu; rw [h2]; omega
theorem countP_set {l : List Int} {i : Nat} {x : Int} {p : Int → Bool} (hi : i < l.length) (h0 : p l[i] = true) : (l.set i x).countP p + (if p x then 0 else 1) = l.countP p := by
  induction l generalizing i with
  | nil => simp at hi
  | cons y r ih =>
    cases i with
    | zero =>
      simp only [List.getElem_cons_zero] at h0
      simp only [List.set_cons_zero, List.countP_cons, h0, if_true]
      cases p x <;> simp
    | succ i =>
      simp only [List.set_cons_succ, List.countP_cons]
      have := ih (i := i) (by simpa using hi) (by simpa using h0)
      omega

theorem offer_tgt {d : Dj} {k : Nat} {u b : Int} (hk : k < d.best.length) (hu : 0 ≤ u) {j : Nat} {x : Int} (h : Tgt d j x) : Tgt (offer d k u b) j x := by
  unfold offer
  split
  · rename_i hb
    simp only [offerB, Bool.and_eq_true, Bool.or_eq_true, decide_eq_true_eq] at hb
    obtain ⟨hv, hbb⟩ := hb
    rcases h with h | ⟨h1, h2, h3⟩
    · exact .inl h
    · right
      refine ⟨h1, ?_⟩
      have := ev_set (k := j) (v := u) hk
      show 0 ≤ ev (d.best.set k u) j ∧ ev (d.best.set k u) j ≤ x
      rw [this]
      split
      · rename_i he; subst he; omega
      · exact ⟨h2, h3⟩
  · exact h
/-- A rule hears of a literal that has its value. -/
def hear (add : Bool) (d : Dj) (i : Nat) (r : Rule) (x : Int) : Dj :=
  let d1 := upd d i (ev d.op i - 1) (if add then min farI (ev d.sm i + x) else max (ev d.sm i) x)
  if ev d.op i - 1 = 0 then offer d1 r.to (min farI (ev d1.sm i + r.cost)) (i : Int) else d1
theorem hear_tgt {add : Bool} {d : Dj} {i : Nat} {r : Rule} {y : Int} (hk : r.to < d.best.length) (hc : 0 ≤ r.cost) (hs : 0 ≤ ev (upd d i (ev d.op i - 1) (if add then min farI (ev d.sm i + y) else max (ev d.sm i) y)).sm i) {j : Nat} {x : Int} (h : Tgt d j x) : Tgt (hear add d i r y) j x := by
  unfold hear
  simp only
  split
  · refine offer_tgt (d := upd d i (ev d.op i - 1) (if add then min farI (ev d.sm i + y) else max (ev d.sm i) y)) hk ?_ h
    exact Int.le_min.2 ⟨by decide, by omega⟩
  · exact h
theorem hear_inv {P : EP} {add : Bool} {m : Int} {vs : Nat → List Int} {pr : Nat → Prop} {d : Dj} (hP : P.OK) (h : Inv P add m vs pr d) {i k : Nat} {r : Rule} {e : List Int} (hi : P.rules[i]? = some r) (hpr : pr i) (he : vs i = e) (hk : k ∈ r.frm)
    (hd : d.v = e.set k m) (h0 : ev e k < 0) (hkl : k < e.length) :
    Inv P add m (fun j => if j = i then d.v else vs j) pr (hear add d i r m) ∧ mu (hear add d i r m) ≤ mu d := by
  have hr : r ∈ P.rules := List.mem_of_getElem? hi
  have hlt : i < P.rules.length := (List.getElem?_eq_some_iff.1 hi).1
  obtain ⟨c1, c2⟩ := h.cnt i r hi hpr
  rw [he] at c1 c2
  have o1 : ev d.op i = ((lack e r.frm : Nat) : Int) := by unfold ev; rw [List.getD_eq_getElem?_getD, c1]; rfl
  have o2 : ev d.sm i = comb add e r.frm := by unfold ev; rw [List.getD_eq_getElem?_getD, c2]; rfl
  have l1 := lack_set (v := m) hkl h.m0 h0 (hP.nodup r hr) hk
  have l2 := comb_set (add := add) (v := m) hkl h.m0 h0 (hP.nodup r hr) hk
  rw [← hd] at l1 l2
  have e1 : ev d.op i - 1 = ((lack d.v r.frm : Nat) : Int) := by rw [o1]; omega
  have e2 : (if add then min farI (ev d.sm i + m) else max (ev d.sm i) m) = comb add d.v r.frm := by rw [o2]; exact l2.symm
  have hpd : d.op[i]'(by rw [h.lop]; exact hlt) = ((lack e r.frm : Nat) : Int) := by
    have := (List.getElem?_eq_some_iff.1 c1).2; exact this
  have hsm : ev (upd d i (ev d.op i - 1) (comb add d.v r.frm)).sm i = comb add d.v r.frm := by
    show ev (d.sm.set i _) i = _
    rw [ev_set (by rw [h.lsm]; exact hlt), if_pos rfl]
  have hpos : (fun x : Int => decide (0 < x)) (d.op[i]'(by rw [h.lop]; exact hlt)) = true := by
    show decide (0 < d.op[i]'(by rw [h.lop]; exact hlt)) = true
    rw [hpd]; simp; omega
  unfold hear
  simp only [e2]
  rw [hsm]
  have hmu : mu (upd d i (ev d.op i - 1) (comb add d.v r.frm)) + (if ev d.op i - 1 = 0 then 1 else 0) = mu d := by
    have := countP_set (x := ev d.op i - 1) (p := fun x => decide (0 < x)) (by rw [h.lop]; exact hlt) hpos
    unfold mu
    show d.q.length + (d.op.set i (ev d.op i - 1)).countP _ + _ = _
    rw [e1] at this ⊢
    by_cases hz : lack d.v r.frm = 0
    · simp only [hz, Int.ofNat_zero] at this ⊢
      simp at this ⊢; omega
    · have h1 : decide ((0 : Int) < ((lack d.v r.frm : Nat) : Int)) = true := by simp; omega
      simp only [h1, if_true] at this
      rw [if_neg (by omega)]; omega
  by_cases hz : ev d.op i - 1 = 0
  · rw [if_pos hz] at hmu ⊢
    have hz' : lack d.v r.frm = 0 := by omega
    rw [hz]
    have hge : m ≤ comb add d.v r.frm := by
      have : ev d.v k = m := by rw [hd, ev_set hkl, if_pos rfl]
      have h3 := comb_ge (add := add) (e := d.v) (x := k) (h.low k).2 hk
      omega
    have hfar : m ≤ farI := by
      have : ev d.v k = m := by rw [hd, ev_set hkl, if_pos rfl]
      have := (h.low k).2
      omega
    have hm : m ≤ rval add d.v r := by
      have := (hP.cost r hr).1
      unfold rval; omega
    have hf := fire_inv hP h hi (e := d.v) hz' (fun _ _ => rfl) hm
    refine ⟨hf.vs fun j r' hj hp => ⟨?_, rfl⟩, ?_⟩
    · by_cases hji : j = i
      · exact .inl hji
      · exact .inr hp
    · have := offer_mu (upd d i 0 (comb add d.v r.frm)) r.to (min farI (comb add d.v r.frm + r.cost)) (i : Int)
      rw [hz] at hmu
      omega
  · rw [if_neg hz] at hmu ⊢
    have hz' : lack d.v r.frm ≠ 0 := by omega
    have hf := upd_inv h hi (e := d.v) hz'
    rw [e1] at hmu ⊢
    refine ⟨hf.vs fun j r' hj hp => ⟨?_, rfl⟩, by omega⟩
    by_cases hji : j = i
    · exact .inl hji
    · exact .inr hp

theorem cnt_bounds {P : EP} {add : Bool} {m : Int} {vs : Nat → List Int} {pr : Nat → Prop} {d : Dj} (h : Inv P add m vs pr d) {i : Nat} {r : Rule} (hi : P.rules[i]? = some r) (hpr : pr i) (hv : ∀ k, ev (vs i) k ≤ farI) :
    (0 ≤ ev d.op i ∧ ev d.op i ≤ r.frm.length) ∧ 0 ≤ ev d.sm i ∧ ev d.sm i ≤ farI := by
  obtain ⟨c1, c2⟩ := h.cnt i r hi hpr
  have o1 : ev d.op i = ((lack (vs i) r.frm : Nat) : Int) := by unfold ev; rw [List.getD_eq_getElem?_getD, c1]; rfl
  have o2 : ev d.sm i = comb add (vs i) r.frm := by unfold ev; rw [List.getD_eq_getElem?_getD, c2]; rfl
  rw [o1, o2]
  have := List.countP_le_length (p := fun x => decide (ev (vs i) x < 0)) (l := r.frm)
  exact ⟨⟨by omega, by unfold lack; omega⟩, comb_nonneg .., comb_le_far hv _⟩

end Go.Fw

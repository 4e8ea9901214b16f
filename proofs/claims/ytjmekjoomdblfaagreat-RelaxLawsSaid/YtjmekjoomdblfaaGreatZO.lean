/- What the law looks at first; estimates from one state and from the next. -/
import Derived.Test.YtjmekjoomdblfaaGreatZN

/- The laws of the relaxation: what they ask for, and the plain law. -/
namespace Go.Fw
open Go Go.Proofs Heap
set_option maxRecDepth 10000

theorem f7_spec (t : Task) (n1 n2 : Bool) (s : List Int) (l : List Lit) (out : List Fr) : SpecP Tryz.prog 4 [.task t, .ints n1 s, .lits n2 l] out fun r ro => (∃ b : Bool, r = .bool b ∧ (b = true → s.length ≤ 300 ∧ l.length ≤ 300)) ∧ ro = [] := by
  refine spec_body cx_ok [] [] (fn := Tryz.f4) (by kernel_rfl) rfl (by kernel_rfl) rfl (by unfold FnOK; kernel_rfl) fun hok => ?_
  refine SpecP.mono (f25_spec t 500 []) ?_
  rintro _ _ ⟨b, rfl, rfl⟩
  have e1 : (s.map tI).length = s.length := List.length_map ..
  have e2 : (l.map tLit).length = l.length := List.length_map ..
  refine And.intro (fun h => ?_) fun h => ?_
  · refine And.intro (fun h2 => ?_) fun h2 => ?_
    · have h2' : ((s.map tI).length : Int) ≤ 300 := of_decide_eq_true h2
      refine And.intro (fun h3 => ?_) fun h3 => ?_
      · have h3' : ((l.map tLit).length : Int) ≤ 300 := of_decide_eq_true h3
        exact Exists.intro [] ⟨⟨true, rfl, fun _ => by omega⟩, rfl⟩
      · exact Exists.intro [] ⟨⟨false, rfl, fun h => by cases h⟩, rfl⟩
    · exact Exists.intro [] ⟨⟨false, rfl, fun h => by cases h⟩, rfl⟩
  · exact Exists.intro [] ⟨⟨false, rfl, fun h => by cases h⟩, rfl⟩

/-! ### The plain law -/
theorem comb_max_le {e : List Int} {z : Int} (hz : 0 ≤ z) : ∀ {l : List Nat}, (∀ x ∈ l, pos (ev e x) ≤ z) → comb false e l ≤ z
  | [], _ => hz
  | x :: r, h => by
    have h1 := comb_max_le hz (l := r) fun y hy => h y (List.mem_cons_of_mem _ hy)
    have h2 := h x (List.mem_cons_self ..)
    show (if (false = true) then _ else max (pos (ev e x)) (comb false e r)) ≤ z
    rw [if_neg (by decide)]; omega
theorem comb_max_ge {e : List Int} {x : Nat} : ∀ {l : List Nat}, x ∈ l → pos (ev e x) ≤ comb false e l
  | y :: r, h => by
    show _ ≤ (if (false = true) then _ else max (pos (ev e y)) (comb false e r))
    rw [if_neg (by decide)]
    rcases List.mem_cons.1 h with h | h
    · subst h; omega
    · have := comb_max_ge (e := e) h; omega
/-- What is reached does not hang on how costs are put together. -/
def signE (e : List Int) : List Int := e.map fun x => if 0 ≤ x then 0 else -1
theorem ev_sign (e : List Int) (k : Nat) : ev (signE e) k = if 0 ≤ ev e k then 0 else -1 := by
  unfold ev signE
  simp only [List.getD_eq_getElem?_getD, List.getElem?_map]
  cases e[k]? with
  | none => rfl
  | some x => rfl
theorem sign_pf {P : EP} (hP : P.OK) {add add' : Bool} {e : List Int} (h : IsE P add e) : PF P add' (signE e) := by
  have up : ∀ k, 0 ≤ ev (signE e) k → 0 ≤ ev e k := fun k hk => by rw [ev_sign] at hk; split at hk <;> omega
  have dn : ∀ k, 0 ≤ ev e k → ev (signE e) k = 0 := fun k hk => by rw [ev_sign, if_pos hk]
  refine ⟨fun k hk hh => ?_, fun r hr hg => ?_⟩
  · rw [dn k (h.pf.ini k hk hh).1]; omega
  · rw [dn r.to (h.pf.rul r hr fun x hx => up x (hg x hx)).1]
    refine ⟨Int.le_refl _, ?_⟩
    have h1 := (hP.cost r hr).1
    have h2 := comb_nonneg add' (signE e) r.frm
    unfold rval farI; omega
theorem reach_same {P : EP} (hP : P.OK) {add add' : Bool} {e e' : List Int} (h : IsE P add e) (h' : IsE P add' e') (k : Nat) : 0 ≤ ev e k ↔ 0 ≤ ev e' k := by
  constructor
  · intro hk
    have := (h.jus k hk _ (sign_pf hP h')).1
    rw [ev_sign] at this; split at this <;> omega
  · intro hk
    have := (h'.jus k hk _ (sign_pf hP h)).1
    rw [ev_sign] at this; split at this <;> omega
theorem got_same {P : EP} (hP : P.OK) {add add' : Bool} {e e' : List Int} (h : IsE P add e) (h' : IsE P add' e') (l : List Lit) : gotB e l = gotB e' l := by
  unfold gotB
  congr 1; funext x
  simp only [decide_eq_decide]
  exact reach_same hP h h' _

end Go.Fw

/- What the laws of the relaxation look at first: the example. -/
namespace Go.Fw
open Go Go.Proofs Heap
set_option maxRecDepth 10000

def sHere : ByteArray := ⟨#[104, 101, 114, 101]⟩
def sThere : ByteArray := ⟨#[116, 104, 101, 114, 101]⟩
def sGo : ByteArray := ⟨#[103, 111]⟩
def exAct : Actn := ⟨sGo, 2, false, [⟨0, false⟩], false, [⟨true, [], ⟨0, true⟩⟩, ⟨true, [], ⟨1, false⟩⟩]⟩
def exTask : Task := ⟨false, [sHere, sThere], false, [0], false, [⟨1, false⟩], false, [exAct]⟩
/-- The action, as the program builds it. -/
def exActT : List T := [.v (.string sGo), .v (.int .i64 2), .sl false 2 [tLit ⟨0, false⟩], .sl false 3 [[.sl true 0 [], .v (.int .i64 0), .v (.bool true)], [.sl true 0 [], .v (.int .i64 1), .v (.bool false)]]]

/-- The task as the program builds it may stand for the task. -/
theorem ex_vals {rest : List LV} (β : K → Nat) (RO : Nat → Prop) (w : World) (vals : List Value)
    (h : Vals β RO w (.agg [.t (.sl false 1 [tS sHere, tS sThere]), .t (.sl false 1 [tI 0]), .t (.sl false 2 [tLit ⟨1, false⟩]), .t (.sl false 4 [exActT])] :: rest) vals) : Vals β RO w (.task exTask :: rest) vals := by
  refine ⟨h.1, fun i z v hz hv => ?_⟩
  cases i with
  | succ i => exact h.2 (i + 1) z v hz hv
  | zero =>
    simp only [List.getElem?_cons_zero, Option.some.injEq] at hz
    subst hz
    have h0 := h.2 0 _ v rfl hv
    cases h0 with
    | agg _ vs hl hc h1 =>
    refine .agg _ vs hl (fun i x u hx hu => ?_) h1
    match i with
    | 0 => simp at hx; subst hx; exact hc 0 _ u rfl hu
    | 1 => simp at hx; subst hx; exact hc 1 _ u rfl hu
    | 2 => simp at hx; subst hx; exact hc 2 _ u rfl hu
    | 3 =>
      simp at hx; subst hx
      have h3 := hc 3 _ u rfl hu
      cases h3 with
      | t _ _ h3 => exact .t _ _ (h3.un _ rfl)
    | i + 4 => simp at hx

/-! ### What comes out -/
abbrev exL : List Lit := [⟨0, false⟩, ⟨1, false⟩]
abbrev exE : List Int := [0, 2, 2, 0]
theorem ex_ok : isB exTask = true := by decide
theorem ex_fine : fineI exTask [0] = 0 := by decide
theorem ex_ask : askI exTask [0] exL = 0 := by decide
theorem ex_rules : (epOf exTask [0]).rules = [⟨0, 1, [0], 2⟩, ⟨0, 2, [0], 2⟩] := by rfl
theorem ex_isE (add : Bool) : IsE (epOf exTask [0]) add exE := by
  have h0 : Jus (epOf exTask [0]) add 0 0 := Jus.ini (by decide) (by decide)
  have h3 : Jus (epOf exTask [0]) add 3 0 := Jus.ini (by decide) (by decide)
  have hv : ∀ k, rval add exE ⟨0, k, [0], 2⟩ = 2 := fun k => by cases add <;> rfl
  have hj : ∀ k, (⟨0, k, [0], 2⟩ : Rule) ∈ (epOf exTask [0]).rules → Jus (epOf exTask [0]) add k 2 := fun k hk => by
    have := Jus.rule (add := add) (e := exE) hk fun x hx => by
      simp only [List.mem_cons, List.not_mem_nil, or_false] at hx
      subst hx; exact ⟨by decide, h0⟩
    rw [hv] at this; exact this
  refine ⟨rfl, fun k => ?_, ⟨fun k hk hh => ?_, fun r hr hg => ?_⟩, fun k hk => ?_⟩
  · match k with
    | 0 => decide
    | 1 => decide
    | 2 => decide
    | 3 => decide
    | k + 4 => exact Int.le_refl _
  · match k, hk, hh with
    | 0, _, _ => decide
    | 1, _, hh => exact absurd hh (by decide)
    | 2, _, hh => exact absurd hh (by decide)
    | 3, _, _ => decide
    | k + 4, hk, _ => exact absurd hk (by show ¬ k + 4 < 4; omega)
  · rw [ex_rules] at hr
    simp only [List.mem_cons, List.not_mem_nil, or_false] at hr
    rcases hr with rfl | rfl <;> rw [hv] <;> decide
  · match k, hk with
    | 0, _ => exact h0
    | 1, _ => exact hj 1 (by rw [ex_rules]; exact List.mem_cons_self ..)
    | 2, _ => exact hj 2 (by rw [ex_rules]; exact List.mem_cons_of_mem _ (List.mem_cons_self ..))
    | 3, _ => exact h3
    | k + 4, hk => exact absurd hk (by show ¬ (0 : Int) ≤ -1; decide)
theorem ex_est {add : Bool} {d : Dj} (h : EstOK exTask [0] add d) : d.v = exE := h.est.unique (ex_isE add)
theorem ex_lits : litsOf exE (2 * exTask.facts.length) = [⟨0, false⟩, ⟨0, true⟩, ⟨1, false⟩, ⟨1, true⟩] := by decide
theorem ex_got : gotB exE exL = true := by decide
theorem ex_max : maxV exE exL = 2 := by decide
theorem ex_add : addV exE exL = 2 := by decide
theorem ex_takes : takesB exTask [0] [0] exL = true := by decide
theorem ex_takes0 : takesB exTask [0] [] exL = false := by decide
theorem ex_plan : planB exTask [0] = true := by decide
theorem ex_plan0 : planB exTask [] = true := by decide

theorem flat_ints {e sz : Nat} {b : List Int} : (Ob.row e sz (b.map tI)).flat := by
  intro el hel x hx
  obtain ⟨y, _, rfl⟩ := List.mem_map.1 hel
  simp [tI] at hx; subst hx; trivial
theorem flat_lits {e sz : Nat} {b : List Lit} : (Ob.row e sz (b.map tLit)).flat := by
  intro el hel x hx
  obtain ⟨y, _, rfl⟩ := List.mem_map.1 hel
  simp [tLit] at hx; rcases hx with rfl | rfl <;> trivial
theorem f13n_spec (t : Task) (n1 n3 : Bool) (s : List Int) (l : List Lit) (out : List Fr) : SpecP Tryz.prog 19 [.task t, .ints n1 s, .t (.sl true 0 []), .lits n3 l] out fun r ro =>
    r = (if askI t s l ≠ 0 then .tup [.bool false, .int (askI t s l)] else if planB t [] = true then .tup [.bool (takesB t s [] l), .int 0] else .tup [.bool false, .int 1]) ∧ ro = [] :=
  SpecP.conv (args' := [.task t, .ints n1 s, .ints true [], .lits n3 l]) (fun β RO w vals hv => ⟨hv.1, fun i z v hz hvz => by
    match i with
    | 0 => exact hv.2 0 z v hz hvz
    | 1 => exact hv.2 1 z v hz hvz
    | 2 => simp at hz; subst hz; exact nil_sz _ _ _ _ (hv.2 2 _ v rfl hvz)
    | 3 => exact hv.2 3 z v hz hvz
    | i + 4 => simp at hz⟩) (f13_spec t n1 true n3 s [] l out)
theorem f8_spec (out : List Fr) : SpecP Tryz.prog 6 [] out fun r ro => r = .bool true ∧ ro = [] := by
  refine spec_body cx_ok [] [] (fn := Tryz.f6) (by kernel_rfl) rfl (by kernel_rfl) rfl (by unfold FnOK; kernel_rfl) fun hok => ?_
  refine And.intro (Nat.le_of_ble_eq_true rfl) (And.intro (Nat.le_of_ble_eq_true rfl) ?_)
  refine Exists.intro [tS sHere, tS sThere] (And.intro rfl (And.intro (Nat.le_of_ble_eq_true rfl) ?_))
  refine Exists.intro [tI 0] (And.intro rfl (And.intro (Nat.le_of_ble_eq_true rfl) ?_))
  refine Exists.intro [tLit ⟨1, false⟩] (And.intro rfl (And.intro (Nat.le_of_ble_eq_true rfl) ?_))
  refine Exists.intro [exActT] (And.intro rfl (And.intro (Nat.le_of_ble_eq_true rfl) ?_))
  refine Exists.intro [tI 0] (And.intro rfl (And.intro (Nat.le_of_ble_eq_true rfl) ?_))
  refine Exists.intro (exL.map tLit) (And.intro rfl (And.intro (Nat.le_of_ble_eq_true rfl) ?_))
  refine SpecP.conv ex_vals (SpecP.mono (f9_spec exTask false false [0] exL _) ?_)
  rintro _ _ ⟨⟨h, _⟩ | ⟨_, d, hd, rfl⟩, rfl⟩
  · exact absurd ex_ask h
  rw [ex_est hd, ex_max, ex_got]
  clear hd d
  refine And.intro ⟨trivial, trivial, trivial, trivial⟩ (And.intro trivial ?_)
  refine And.intro (fun _ => ?_) fun h => absurd h (by decide)
  refine Exists.intro [tS sHere, tS sThere] (And.intro rfl (And.intro (Nat.le_of_ble_eq_true rfl) ?_))
  refine Exists.intro [tI 0] (And.intro rfl (And.intro (Nat.le_of_ble_eq_true rfl) ?_))
  refine Exists.intro [tLit ⟨1, false⟩] (And.intro rfl (And.intro (Nat.le_of_ble_eq_true rfl) ?_))
  refine Exists.intro [exActT] (And.intro rfl (And.intro (Nat.le_of_ble_eq_true rfl) ?_))
  refine Exists.intro [tI 0] (And.intro rfl (And.intro (Nat.le_of_ble_eq_true rfl) ?_))
  refine Exists.intro (exL.map tLit) (And.intro rfl (And.intro (Nat.le_of_ble_eq_true rfl) ?_))
  refine SpecP.conv ex_vals (SpecP.mono (f10_spec exTask false false [0] exL (by decide) _) ?_)
  rintro _ _ ⟨⟨h, _⟩ | ⟨_, d, hd, rfl⟩, rfl⟩
  · exact absurd ex_ask h
  rw [ex_est hd, ex_add, ex_got, if_neg (by decide), if_neg (by decide)]
  clear hd d
  refine And.intro ⟨trivial, trivial, trivial, trivial⟩ (And.intro trivial ?_)
  refine And.intro (fun _ => ?_) fun h => absurd h (by decide)
  refine Exists.intro [tS sHere, tS sThere] (And.intro rfl (And.intro (Nat.le_of_ble_eq_true rfl) ?_))
  refine Exists.intro [tI 0] (And.intro rfl (And.intro (Nat.le_of_ble_eq_true rfl) ?_))
  refine Exists.intro [tLit ⟨1, false⟩] (And.intro rfl (And.intro (Nat.le_of_ble_eq_true rfl) ?_))
  refine Exists.intro [exActT] (And.intro rfl (And.intro (Nat.le_of_ble_eq_true rfl) ?_))
  refine Exists.intro [tI 0] (And.intro rfl (And.intro (Nat.le_of_ble_eq_true rfl) ?_))
  refine SpecP.conv ex_vals (SpecP.mono (f18_spec exTask false [0] _) ?_)
  rintro _ _ (⟨h, _⟩ | ⟨_, d, hd, h1, h2⟩)
  · exact absurd ex_fine h
  rw [ex_est hd, ex_lits] at h1 h2
  subst h1 h2
  clear hd d
  refine And.intro ⟨trivial, trivial, trivial⟩ (And.intro ⟨flat_lits (b := [⟨0, false⟩, ⟨0, true⟩, ⟨1, false⟩, ⟨1, true⟩]), trivial⟩ ?_)
  refine Exists.intro [tS sHere, tS sThere] (And.intro rfl (And.intro (Nat.le_of_ble_eq_true rfl) ?_))
  refine Exists.intro [tI 0] (And.intro rfl (And.intro (Nat.le_of_ble_eq_true rfl) ?_))
  refine Exists.intro [tLit ⟨1, false⟩] (And.intro rfl (And.intro (Nat.le_of_ble_eq_true rfl) ?_))
  refine Exists.intro [exActT] (And.intro rfl (And.intro (Nat.le_of_ble_eq_true rfl) ?_))
  refine Exists.intro [tI 0] (And.intro rfl (And.intro (Nat.le_of_ble_eq_true rfl) ?_))
  refine Exists.intro (exL.map tLit) (And.intro rfl (And.intro (Nat.le_of_ble_eq_true rfl) ?_))
  refine SpecP.conv ex_vals (SpecP.mono (f14_spec exTask false false [0] exL (by decide) _) ?_)
  rintro _ _ (⟨h, _⟩ | ⟨_, d, hd, ⟨h, _⟩ | ⟨_, p, hp, h1, h2⟩⟩)
  · exact absurd ex_ask h
  · rw [ex_est hd, ex_got] at h; cases h
  obtain ⟨x, q, rfl⟩ : ∃ x q, p = x :: q := by
    cases p with
    | nil => have := hp.takes; rw [ex_takes0] at this; cases this
    | cons x q => exact ⟨x, q, rfl⟩
  have hlen : (tI x :: q.map tI).length ≤ 4 := by
    have := hp.len
    rw [ex_est hd, ex_lits] at this
    simpa using this
  subst h1 h2
  clear hp
  refine And.intro ⟨trivial, trivial, trivial, trivial⟩ (And.intro ⟨flat_ints (b := x :: q), trivial⟩ ?_)
  refine And.intro (fun _ => ?_) fun h => absurd h (by decide)
  refine Exists.intro [tS sHere, tS sThere] (And.intro rfl (And.intro (Nat.le_of_ble_eq_true rfl) ?_))
  refine Exists.intro [tI 0] (And.intro rfl (And.intro (Nat.le_of_ble_eq_true rfl) ?_))
  refine Exists.intro [tLit ⟨1, false⟩] (And.intro rfl (And.intro (Nat.le_of_ble_eq_true rfl) ?_))
  refine Exists.intro [exActT] (And.intro rfl (And.intro (Nat.le_of_ble_eq_true rfl) ?_))
  refine Exists.intro [tI 0] (And.intro rfl (And.intro (Nat.le_of_ble_eq_true rfl) ?_))
  refine Exists.intro [tI 0] (And.intro rfl (And.intro (Nat.le_of_ble_eq_true rfl) ?_))
  refine Exists.intro (exL.map tLit) (And.intro rfl (And.intro (Nat.le_of_ble_eq_true rfl) ?_))
  refine SpecP.conv ex_vals (SpecP.mono (f13_spec exTask false false false [0] [0] exL _) ?_)
  rintro _ _ ⟨rfl, rfl⟩
  rw [if_neg (fun h => h ex_ask), if_pos ex_plan, ex_takes]
  refine And.intro ⟨trivial, trivial, trivial⟩ (And.intro trivial ?_)
  refine And.intro (fun _ => ?_) fun h => absurd h (by decide)
  refine Exists.intro [tS sHere, tS sThere] (And.intro rfl (And.intro (Nat.le_of_ble_eq_true rfl) ?_))
  refine Exists.intro [tI 0] (And.intro rfl (And.intro (Nat.le_of_ble_eq_true rfl) ?_))
  refine Exists.intro [tLit ⟨1, false⟩] (And.intro rfl (And.intro (Nat.le_of_ble_eq_true rfl) ?_))
  refine Exists.intro [exActT] (And.intro rfl (And.intro (Nat.le_of_ble_eq_true rfl) ?_))
  refine Exists.intro [tI 0] (And.intro rfl (And.intro (Nat.le_of_ble_eq_true rfl) ?_))
  refine Exists.intro (exL.map tLit) (And.intro rfl (And.intro (Nat.le_of_ble_eq_true rfl) ?_))
  refine SpecP.conv ex_vals (SpecP.mono (f13n_spec exTask false false [0] exL _) ?_)
  rintro _ _ ⟨rfl, rfl⟩
  rw [if_neg (fun h => h ex_ask), if_pos ex_plan0, ex_takes0]
  refine And.intro ⟨trivial, trivial, trivial⟩ (And.intro trivial ?_)
  refine And.intro (fun h => absurd h (by decide)) fun _ => ?_
  refine And.intro (fun _ => ?_) fun h => absurd h (by decide)
  refine And.intro (fun _ => ?_) fun h => absurd h (by decide)
  refine And.intro (fun _ => ?_) fun h => absurd h (by decide)
  refine And.intro (fun _ => ?_) fun h => absurd h (by decide)
  refine And.intro (fun _ => ?_) fun h => absurd h (by decide)
  refine And.intro (fun _ => ?_) fun h => absurd h (by decide)
  refine And.intro (fun _ => ?_) fun h => absurd (of_decide_eq_false h) (by simp)
  refine And.intro (fun _ => ?_) fun h => absurd h (by decide)
  refine And.intro (fun _ => ?_) fun h => absurd h (by decide)
  refine And.intro (fun _ => ?_) fun h => absurd h (by decide)
  exact Exists.intro [] (And.intro rfl rfl)

end Go.Fw

/- Estimates from one state and from the state after an action: the plain law of RelaxLaws. -/
namespace Go.Fw
open Go Go.Proofs Heap
set_option maxRecDepth 10000

/-! ### Rules -/
theorem rule_of {t : Task} {s : List Int} {a : Nat} {A : Actn} {x : Eff} (hA : t.acts[a]? = some A) (hx : x ∈ A.effs) :
    ∃ r ∈ (epOf t s).rules, r.to = codeN x.lit ∧ r.cost = A.cost ∧ ∀ y ∈ r.frm, ∃ l, (l ∈ A.pre ∨ l ∈ x.when_) ∧ codeN l = y := by
  refine ⟨ruleE t (ruleOf (a : Int) A x), List.mem_map_of_mem (mem_rulesX hA hx), rfl, ?_, fun y hy => ?_⟩
  · unfold ruleE ruleOf
    simp only [Int.toNat_natCast, hA]
  · obtain ⟨z, hz, rfl⟩ := List.mem_map.1 (show y ∈ (dedupI ((A.pre ++ x.when_).map codeI)).map Int.toNat from hy)
    obtain ⟨l, hl, rfl⟩ := List.mem_map.1 (mem_dedup.1 hz)
    exact ⟨l, List.mem_append.1 hl, rfl⟩
/-- What an effect makes true is reached at the cost of what it asks for, and of the action. -/
theorem eff_ev {t : Task} {s : List Int} {e : List Int} (he : IsE (epOf t s) false e) {a : Nat} {A : Actn} {x : Eff} {c : Int} (hc : 0 ≤ c) (hA : t.acts[a]? = some A) (hx : x ∈ A.effs)
    (h : ∀ l, l ∈ A.pre ∨ l ∈ x.when_ → 0 ≤ ev e (codeN l) ∧ ev e (codeN l) ≤ c) : 0 ≤ ev e (codeN x.lit) ∧ ev e (codeN x.lit) ≤ c + A.cost := by
  obtain ⟨r, hr, h1, h2, h3⟩ := rule_of (s := s) hA hx
  have hk : ∀ y ∈ r.frm, 0 ≤ ev e y ∧ ev e y ≤ c := fun y hy => by
    obtain ⟨l, hl, rfl⟩ := h3 y hy
    exact h l hl
  obtain ⟨p1, p2⟩ := he.pf.rul r hr fun y hy => (hk y hy).1
  rw [h1] at p1 p2
  refine ⟨p1, ?_⟩
  have := comb_max_le hc (e := e) (l := r.frm) fun y hy => by rw [pos_of (hk y hy).1]; exact (hk y hy).2
  unfold rval at p2
  rw [h2] at p2
  omega

/-! ### The state after an action -/
theorem ev_holds {t : Task} {s : List Int} {add : Bool} {e : List Int} (he : IsE (epOf t s) add e) {l : Lit} (hl : litIn t.facts.length l) (h : holdsB s [l] = true) : ev e (codeN l) = 0 := by
  have hk := code_range hl
  have h2 : holdsL s (codeN l) = true := by
    rw [holds_one] at h
    unfold holdsL codeN codeI
    have h0 := hl.1
    cases hn : l.neg
    · rw [hn] at h
      simp only [Bool.false_eq_true, if_false]
      rw [show ((2 * l.fact).toNat / 2 : Nat) = l.fact.toNat by omega, show ((l.fact.toNat : Nat) : Int) = l.fact by omega]
      have : ¬ (2 * l.fact).toNat % 2 = 1 := by omega
      simp only [this, decide_false]; exact h
    · rw [hn] at h
      simp only [if_true]
      rw [show ((2 * l.fact + 1).toNat / 2 : Nat) = l.fact.toNat by omega, show ((l.fact.toNat : Nat) : Int) = l.fact by omega]
      have : (2 * l.fact + 1).toNat % 2 = 1 := by omega
      simp only [this, decide_true]; exact h
  have := he.pf.ini (codeN l) (by show codeN l < 2 * t.facts.length; unfold codeN; omega) h2
  omega
/-- What holds in the state after an action is reached at the action's cost. -/
theorem ev_after {t : Task} {s : List Int} {e : List Int} (TK : TaskOK t) (hs : ∀ x ∈ s, 0 ≤ x ∧ x < (t.facts.length : Int)) (he : IsE (epOf t s) false e) {a : Nat} {A : Actn} (hA : t.acts[a]? = some A) (hp : holdsB s A.pre = true)
    {k : Nat} (hk : k < 2 * t.facts.length) (h : holdsL (afterL t.facts.length s A.effs) k = true) : 0 ≤ ev e k ∧ ev e k ≤ A.cost := by
  have hAm : A ∈ t.acts := List.mem_of_getElem? hA
  have hc := (TK.cost A hAm).1
  have hf : k / 2 < t.facts.length := by omega
  have hfi : factsIn t.facts.length A.effs := fun x hx => TK.lit A hAm x hx
  have made : ∀ x ∈ A.effs, holdsB s x.when_ = true → codeN x.lit = k → 0 ≤ ev e k ∧ ev e k ≤ A.cost := fun x hx hw hxk => by
    have := eff_ev he (Int.le_refl 0) hA hx fun l hl => by
      have hl2 : litIn t.facts.length l ∧ holdsB s [l] = true := by
        rcases hl with hl | hl
        · exact ⟨TK.pre A hAm l hl, holds_mem hp l hl⟩
        · exact ⟨TK.whn A hAm x hx l hl, holds_mem hw l hl⟩
      rw [ev_holds he hl2.1 hl2.2]
      exact ⟨Int.le_refl _, Int.le_refl _⟩
    rw [hxk] at this
    omega
  by_cases h0 : holdsL s k = true
  · have := he.pf.ini k hk h0
    omega
  have h0 : holdsL s k = false := by simpa using h0
  unfold holdsL at h h0
  rcases Nat.mod_two_eq_zero_or_one k with hm | hm
  · simp only [hm, show ¬ (0 : Nat) = 1 by decide, decide_false] at h h0
    have h1 : hasB (afterL t.facts.length s A.effs) ((k / 2 : Nat) : Int) = true := by simpa using h
    have h2 : hasB s ((k / 2 : Nat) : Int) = false := by simpa using h0
    rcases after_true hfi hs hf h1 with h3 | ⟨x, hx, hxl, hw⟩
    · rw [h2] at h3; cases h3
    · refine made x hx hw ?_
      rw [hxl]; unfold codeN codeI
      simp only [Bool.false_eq_true, if_false]; omega
  · simp only [hm, decide_true] at h h0
    have h1 : hasB (afterL t.facts.length s A.effs) ((k / 2 : Nat) : Int) = false := by simpa using h
    have h2 : hasB s ((k / 2 : Nat) : Int) = true := by simpa using h0
    rcases after_false hfi hs hf h1 with h3 | ⟨x, hx, hxl, hw⟩
    · rw [h2] at h3; cases h3
    · refine made x hx hw ?_
      rw [hxl]; unfold codeN codeI
      simp only [if_true]; omega
/-- Values, less a cost. -/
def lessE (c : Int) (e : List Int) : List Int := e.map fun x => if 0 ≤ x then max 0 (x - c) else -1
theorem ev_less (c : Int) (e : List Int) (k : Nat) : ev (lessE c e) k = if 0 ≤ ev e k then max 0 (ev e k - c) else -1 := by
  unfold ev lessE
  simp only [List.getD_eq_getElem?_getD, List.getElem?_map]
  cases e[k]? with
  | none => rfl
  | some x => rfl
theorem comb_less {c : Int} (hc : 0 ≤ c) {e : List Int} : ∀ L : List Nat, comb false e L ≤ comb false (lessE c e) L + c
  | [] => by show (0 : Int) ≤ 0 + c; omega
  | x :: r => by
    have h1 := comb_less hc (e := e) r
    have h2 : pos (ev e x) ≤ pos (ev (lessE c e) x) + c := by
      rw [ev_less]
      unfold pos
      split
      · split <;> omega
      · simp; omega
    show (if (false = true) then _ else max (pos (ev e x)) (comb false e r)) ≤ (if (false = true) then _ else max (pos (ev (lessE c e) x)) (comb false (lessE c e) r)) + c
    rw [if_neg (by decide), if_neg (by decide)]
    omega
/-- THE ESTIMATE IS CONSISTENT. -/
theorem est_step {t : Task} {s : List Int} {e e' : List Int} (ht : isB t = true) (hs : ∀ x ∈ s, 0 ≤ x ∧ x < (t.facts.length : Int)) (he : IsE (epOf t s) false e) {a : Nat} {A : Actn} (hA : t.acts[a]? = some A) (hp : holdsB s A.pre = true)
    (he' : IsE (epOf t (afterL t.facts.length s A.effs)) false e') (k : Nat) (hk : 0 ≤ ev e' k) : 0 ≤ ev e k ∧ ev e k ≤ ev e' k + A.cost := by
  have TK := task_ok ht
  have hc := (TK.cost A (List.mem_of_getElem? hA)).1
  have up : ∀ q, 0 ≤ ev (lessE A.cost e) q → 0 ≤ ev e q := fun q hq => by rw [ev_less] at hq; split at hq <;> omega
  have pf : PF (epOf t (afterL t.facts.length s A.effs)) false (lessE A.cost e) := by
    refine ⟨fun q hq hh => ?_, fun r hr hg => ?_⟩
    · have := ev_after TK hs he hA hp hq hh
      rw [ev_less, if_pos this.1]; omega
    · obtain ⟨p1, p2⟩ := he.pf.rul r hr fun y hy => up y (hg y hy)
      rw [ev_less, if_pos p1]
      have h1 := comb_less hc (e := e) r.frm
      have h2 := comb_nonneg false (lessE A.cost e) r.frm
      have h3 := ((epOf_ok ht s).cost r hr).1
      unfold rval farI at *
      omega
  have := he'.jus k hk _ pf
  have h1 := up k this.1
  rw [ev_less, if_pos h1] at this
  omega
theorem max_le {e : List Int} {l : List Lit} {z : Int} (hz : 0 ≤ z) (h : ∀ x ∈ l, 0 ≤ ev e (codeN x) ∧ ev e (codeN x) ≤ z) : gotB e l = true ∧ maxV e l ≤ z := by
  have hg : gotB e l = true := by
    unfold gotB
    exact List.all_eq_true.2 fun x hx => decide_eq_true (h x hx).1
  refine ⟨hg, ?_⟩
  rw [maxV, hg, if_pos rfl]
  refine comb_max_le hz fun y hy => ?_
  obtain ⟨x, hx, rfl⟩ := List.mem_map.1 hy
  rw [pos_of (h x hx).1]; exact (h x hx).2
theorem max_ge {e : List Int} {l : List Lit} (hg : gotB e l = true) : ∀ x ∈ l, 0 ≤ ev e (codeN x) ∧ ev e (codeN x) ≤ maxV e l := fun x hx => by
  have h0 : 0 ≤ ev e (codeN x) := of_decide_eq_true (List.all_eq_true.1 hg x hx)
  refine ⟨h0, ?_⟩
  rw [maxV, hg, if_pos rfl]
  have := comb_max_ge (e := e) (List.mem_map_of_mem (f := codeN) hx)
  rw [pos_of h0] at this; exact this
theorem max_nonneg (e : List Int) (l : List Lit) : 0 ≤ maxV e l := by unfold maxV; split; exact comb_nonneg ..; exact Int.le_refl _
theorem max_step {t : Task} {s : List Int} {e e' : List Int} (ht : isB t = true) (hs : ∀ x ∈ s, 0 ≤ x ∧ x < (t.facts.length : Int)) (he : IsE (epOf t s) false e) {a : Nat} {A : Actn} (hA : t.acts[a]? = some A) (hp : holdsB s A.pre = true)
    (he' : IsE (epOf t (afterL t.facts.length s A.effs)) false e') {l : List Lit} (hg : gotB e' l = true) : gotB e l = true ∧ maxV e l ≤ maxV e' l + A.cost := by
  have hc := ((task_ok ht).cost A (List.mem_of_getElem? hA)).1
  refine max_le (by have := max_nonneg e' l; omega) fun x hx => ?_
  have h1 := max_ge hg x hx
  have h2 := est_step ht hs he hA hp he' _ h1.1
  omega
theorem max_hold {t : Task} {s : List Int} {e : List Int} (he : IsE (epOf t s) false e) {l : List Lit} (hl : ∀ x ∈ l, litIn t.facts.length x) (h : holdsB s l = true) : gotB e l = true ∧ maxV e l = 0 := by
  have := max_le (Int.le_refl 0) (e := e) (l := l) fun x hx => by
    rw [ev_holds he (hl x hx) (holds_mem h x hx)]; exact ⟨Int.le_refl _, Int.le_refl _⟩
  have h2 := max_nonneg e l
  exact ⟨this.1, by omega⟩

/-! ### Relaxed plans -/
theorem setL_why : ∀ (l : List Int) {b : List Bool} {q : Nat}, (setL b l).getD q false = true → b.getD q false = true ∨ ∃ x ∈ l, x.toNat = q
  | [], b, q, h => .inl h
  | x :: r, b, q, h => by
    rcases setL_why r (b := b.set x.toNat true) h with h | ⟨y, hy, hq⟩
    · by_cases hx : x.toNat = q
      · exact .inr ⟨x, List.mem_cons_self .., hx⟩
      · refine .inl ?_
        rw [List.getD_eq_getElem?_getD, List.getElem?_set, if_neg hx] at h
        rw [List.getD_eq_getElem?_getD]; exact h
    · exact .inr ⟨y, List.mem_cons_of_mem _ hy, hq⟩
theorem run_ev {t : Task} {s : List Int} {e : List Int} (TK : TaskOK t) (he : IsE (epOf t s) false e) {p : List Int} (hp : planB t p = true) : ∀ i, i ≤ p.length → ∀ b, runB t (iniB t s) (p.take i) = some b → ∀ k, b.getD k false = true → 0 ≤ ev e k ∧ ev e k ≤ costAt t p i := by
  intro i
  induction i with
  | zero =>
    intro _ b hb k hk
    cases hb
    have hkl : k < 2 * t.facts.length := by
      rcases Nat.lt_or_ge k (iniB t s).length with h | h
      · simpa [iniB] using h
      · rw [List.getD_eq_getElem?_getD, List.getElem?_eq_none h] at hk; cases hk
    have hh : holdsL s k = true := by
      rw [List.getD_eq_getElem?_getD] at hk
      simpa [iniB, hkl] using hk
    exact he.pf.ini k hkl hh
  | succ i ih =>
    intro hi b hb k hk
    obtain ⟨a, ha1, ha2, ha3, ha4, _⟩ := plan_get hp hi
    have hA := List.mem_of_getElem? ha4
    have hc := (TK.cost _ hA).1
    have hci := (costAt_in TK hp i (by omega)).1
    rw [List.take_add_one, List.getElem?_eq_getElem hi, Option.toList_some, runB_app] at hb
    split at hb
    · rename_i b1 hb1
      have hg : p.getD i 0 = p[i] := by rw [List.getD_eq_getElem?_getD, List.getElem?_eq_getElem hi]; rfl
      rw [hg] at ha4
      rw [runB_cons, ha4] at hb
      have ih1 := ih (by omega) b1 hb1
      show 0 ≤ ev e k ∧ ev e k ≤ costAt t p i + (pAct t p i).cost
      simp only at hb
      split at hb
      · rename_i hpre
        cases hb
        rcases setL_why _ hk with h | ⟨x, hx, hxk⟩
        · have := ih1 k h; omega
        · unfold adds at hx
          obtain ⟨y, hy, rfl⟩ := List.mem_map.1 hx
          rw [List.mem_filter] at hy
          have := eff_ev he hci ha4 hy.1 fun l hl => by
            rcases hl with hl | hl
            · exact ih1 _ (List.all_eq_true.1 hpre l hl)
            · exact ih1 _ (List.all_eq_true.1 hy.2 l hl)
          rw [show codeN y.lit = k from hxk] at this
          exact this
      · cases hb
    · cases hb
theorem takes_cost {t : Task} {s : List Int} {e : List Int} (TK : TaskOK t) (he : IsE (epOf t s) false e) {p : List Int} (hp : planB t p = true) {l : List Lit} (h : takesB t s p l = true) : maxV e l ≤ costAt t p p.length := by
  unfold takesB at h
  split at h
  · rename_i b hb
    have hr := run_ev TK he hp p.length (Nat.le_refl _) b (by rw [List.take_length]; exact hb)
    exact (max_le (costAt_in TK hp _ (Nat.le_refl _)).1 fun x hx => hr _ (List.all_eq_true.1 h x hx)).2
  · cases h

end Go.Fw

/- What the program's functions do: the cost of a list, literals that hold. -/
namespace Go.Fw
open Go Go.Proofs Heap
set_option maxRecDepth 10000

def god25 : Od := [(4, [(0, .pure), (1, .pure), (2, .pure), (4, .pure), (5, .pure), (3, .eff), (6, .pure)])]
def gkp25 : Kp := [(2, ([0, 7, 8, 9], []))]
theorem g25_spec (n1 n2 : Bool) (s : List Int) (l : List Lit) (out : List Fr) : SpecP Tryz.prog 32 [.ints n1 s, .lits n2 l] out fun r ro => r = .bool (holdsB s l) ∧ ro = [] := by
  refine spec_body cx_ok gkp25 god25 (fn := Tryz.f32) (by kernel_rfl) rfl (by kernel_rfl) rfl (by unfold FnOK; kernel_rfl) fun hok => ?_
  have hmx := le_max hok.2.1.1
  refine LoopW.mk Nat (fun i => i ≤ l.length ∧ (l.take i).all (fun x => hasB s x.fact != x.neg) = true) (fun i => [(0, .ints n1 s), (7, .lits n2 l), (8, .int (l.map tLit).length), (9, .int i)]) (fun _ => ⟨out, []⟩) (fun i => l.length - i) 0 ⟨Nat.zero_le _, rfl⟩ ⟨rfl, rfl⟩ fun i hI => ?_
  refine And.intro (fun h1 => ?_) fun h1 => ?_
  · have hi := lt_of_dec h1
    refine And.intro (by omega) (Exists.intro _ (And.intro (get_map hi) ?_))
    refine And.intro (fun h2 => ?_) fun h2 => ?_
    · refine SpecP.mono (f43_spec n1 s l[i].fact []) ?_
      rintro r ro ⟨rfl, rfl⟩
      refine And.intro ⟨rfl, rfl, rfl⟩ (And.intro (fun h3 => ?_) fun h3 => ?_)
      · refine And.intro (fun _ => ?_) fun h => Bool.noConfusion h
        exact Exists.intro [] (ret_bool (all_false hi (by simp [h2, h3])) rfl)
      · refine And.intro (fun h => Bool.noConfusion h) fun _ => ?_
        refine And.intro (by omega) (And.intro (by omega) ?_)
        exact Exists.intro (i + 1) (And.intro (by show l.length - (i + 1) < l.length - i; omega) (And.intro ⟨hi, all_step hi hI.2 (by simp [h2, h3])⟩ (And.intro rfl rfl)))
    · refine SpecP.mono (f43_spec n1 s l[i].fact []) ?_
      rintro r ro ⟨rfl, rfl⟩
      refine And.intro ⟨rfl, rfl, rfl⟩ (And.intro (fun h3 => ?_) fun h3 => ?_)
      · refine And.intro (fun h => Bool.noConfusion h) fun _ => ?_
        refine And.intro (by omega) (And.intro (by omega) ?_)
        exact Exists.intro (i + 1) (And.intro (by show l.length - (i + 1) < l.length - i; omega) (And.intro ⟨hi, all_step hi hI.2 (by simp [h2, h3])⟩ (And.intro rfl rfl)))
      · refine And.intro (fun _ => ?_) fun h => Bool.noConfusion h
        exact Exists.intro [] (ret_bool (all_false hi (by simp [h2, h3])) rfl)
  · have hi : i = l.length := by have := hI.1; have := ge_of_dec h1; omega
    refine Exists.intro [] (And.intro ?_ rfl)
    have : holdsB s l = true := by have := hI.2; rw [hi, List.take_length] at this; exact this
    rw [this]; rfl

theorem g13_spec (n1 n2 : Bool) (s : List Int) (l : List Lit) (out : List Fr) : SpecP Tryz.prog 13 [.ints n1 s, .lits n2 l] out fun r ro => r = .bool (holdsB s l) ∧ ro = [] := by
  refine spec_body cx_ok [] [] (fn := Tryz.f13) (by kernel_rfl) rfl (by kernel_rfl) rfl (by unfold FnOK; kernel_rfl) fun hok => ?_
  refine SpecP.mono (g25_spec n1 n2 s l []) ?_
  rintro _ _ ⟨rfl, rfl⟩
  refine And.intro (fun h => ?_) fun h => ?_
  · exact Exists.intro [] (ret_bool h rfl)
  · exact Exists.intro [] (ret_bool h rfl)
theorem g11_spec (t : Task) (n2 : Bool) (p : List Int) (TK : TaskOK t) (hp : planB t p = true) (out : List Fr) : SpecP Tryz.prog 11 [.task t, .ints n2 p] out fun r ro => r = .int (costAt t p p.length) ∧ ro = [] := by
  refine spec_body cx_ok [(3, ([2, 5, 8, 9, 10], [16]))] [] (fn := Tryz.f11) (by kernel_rfl) rfl (by kernel_rfl) rfl (by unfold FnOK; kernel_rfl) fun hok => ?_
  have hpl : p.length ≤ 10000 := by simp only [planB, Bool.and_eq_true, decide_eq_true_eq] at hp; exact hp.1
  refine LoopW.mk Nat (fun i => i ≤ p.length) (fun i => [(2, .ptr (.cur 16) 0), (5, .int (costAt t p i)), (8, .ints n2 p), (9, .int (p.map tI).length), (10, .int i)])
    (fun _ => ⟨out, [(16, .box (cellsTask t))]⟩) (fun i => p.length - i) 0 (Nat.zero_le _) ⟨rfl, rfl⟩ fun i hi0 => ?_
  refine And.intro (fun h1 => ?_) fun h1 => ?_
  · have hi : i < p.length := lt_of_dec h1
    obtain ⟨k, hk1, hk2, hk3, _⟩ := plan_get hp hi
    have hci := costAt_in TK hp i hi0
    have hc := TK.cost _ (List.getElem_mem hk2)
    have hcost : costAt t p (i + 1) = costAt t p i + t.acts[k].cost := by rw [costAt, hk3]
    refine And.intro (by omega) (Exists.intro (tI k) (And.intro (by rw [← hk1]; exact get_map hi) ?_))
    refine And.intro (by omega) (Exists.intro _ (And.intro (get_map hk2) ?_))
    refine And.intro (by omega) (And.intro (by omega) ?_)
    refine And.intro (by omega) (And.intro (by omega) ?_)
    refine Exists.intro (i + 1) (And.intro (by show p.length - (i + 1) < p.length - i; omega) (And.intro hi ?_))
    simp only [hcost]
    exact And.intro rfl rfl
  · have hi : i = p.length := by have := ge_of_dec h1; have : i ≤ p.length := hi0; omega
    rw [← hi]
    exact Exists.intro [] ⟨rfl, rfl⟩

end Go.Fw

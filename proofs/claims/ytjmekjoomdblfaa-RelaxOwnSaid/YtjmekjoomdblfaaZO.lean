/- What the laws of the relaxation compare. -/
import Derived.Test.YtjmekjoomdblfaaZN

/- The laws of the relaxation: what they ask for, and the plain law. -/
namespace Go.Fw
open Go Go.Proofs Heap
set_option maxRecDepth 10000

theorem f7_spec (t : Task) (n1 n2 : Bool) (s : List Int) (l : List Lit) (out : List Fr) : SpecP Try.prog 7 [.task t, .ints n1 s, .lits n2 l] out fun r ro => (∃ b : Bool, r = .bool b ∧ (b = true → s.length ≤ 300 ∧ l.length ≤ 300)) ∧ ro = [] := by
  refine spec_body cx_ok [] [] (fn := Try.f7) (by kernel_rfl) rfl (by kernel_rfl) rfl (by unfold FnOK; kernel_rfl) fun hok => ?_
  refine SpecP.mono (f25_spec t 500 []) ?_
  rintro _ _ ⟨b, rfl, rfl⟩
  have e1 : (s.map tI).length = s.length := List.length_map ..
  have e2 : (l.map tLit).length = l.length := List.length_map ..
  refine And.intro (fun h => ?_) fun h => ?_
  · refine And.intro (fun h2 => ?_) fun h2 => ?_
    · have h2' : ((s.map tI).length : Int) ≤ 300 := of_decide_eq_true h2
      refine And.intro (fun h3 => ?_) fun h3 => ?_
      · have h3' : ((l.map tLit).length : Int) ≤ 300 := of_decide_eq_true h3
        exact Exists.intro [] ⟨⟨true, rfl, fun _ => by omega⟩, rfl⟩
      · exact Exists.intro [] ⟨⟨false, rfl, fun h => by cases h⟩, rfl⟩
    · exact Exists.intro [] ⟨⟨false, rfl, fun h => by cases h⟩, rfl⟩
  · exact Exists.intro [] ⟨⟨false, rfl, fun h => by cases h⟩, rfl⟩

/-! ### The plain law -/
theorem mem_dedL_iff {l : List Lit} {x : Lit} : x ∈ dedL l ↔ x ∈ l := by
  constructor
  · exact mem_dedL
  · intro h
    have h1 : codeI x ∈ (dedL l).map codeI := by rw [dedL_codes]; exact mem_dedup.2 (List.mem_map_of_mem h)
    obtain ⟨y, hy, he⟩ := List.mem_map.1 h1
    rw [← code_inj he]; exact hy
theorem got_ded (e : List Int) (l : List Lit) : gotB e (dedL l) = gotB e l := by
  unfold gotB
  rw [Bool.eq_iff_iff, List.all_eq_true, List.all_eq_true]
  exact ⟨fun h x hx => h x (mem_dedL_iff.2 hx), fun h x hx => h x (mem_dedL_iff.1 hx)⟩
theorem comb_max_le {e : List Int} {z : Int} (hz : 0 ≤ z) : ∀ {l : List Nat}, (∀ x ∈ l, pos (ev e x) ≤ z) → comb false e l ≤ z
  | [], _ => hz
  | x :: r, h => by
    have h1 := comb_max_le hz (l := r) fun y hy => h y (List.mem_cons_of_mem _ hy)
    have h2 := h x (List.mem_cons_self ..)
    show (if (false = true) then _ else max (pos (ev e x)) (comb false e r)) ≤ z
    rw [if_neg (by decide)]; omega
theorem comb_max_ge {e : List Int} {x : Nat} : ∀ {l : List Nat}, x ∈ l → pos (ev e x) ≤ comb false e l
  | y :: r, h => by
    show _ ≤ (if (false = true) then _ else max (pos (ev e y)) (comb false e r))
    rw [if_neg (by decide)]
    rcases List.mem_cons.1 h with h | h
    · subst h; omega
    · have := comb_max_ge (e := e) h; omega
theorem comb_ded (e : List Int) (l : List Lit) : comb false e ((dedL l).map codeN) = comb false e (l.map codeN) := by
  refine Int.le_antisymm (comb_max_le (comb_nonneg ..) fun x hx => ?_) (comb_max_le (comb_nonneg ..) fun x hx => ?_) <;>
    obtain ⟨y, hy, rfl⟩ := List.mem_map.1 hx
  · exact comb_max_ge (List.mem_map_of_mem (mem_dedL_iff.1 hy))
  · exact comb_max_ge (List.mem_map_of_mem (mem_dedL_iff.2 hy))
theorem value_max (e : List Int) (l : List Lit) : valueR false e (dedL l) = .tup [.int (maxV e l), .bool (gotB e l)] := by
  unfold valueR maxV
  rw [got_ded, comb_ded]
  cases gotB e l <;> rfl
theorem value_add (e : List Int) (l : List Lit) : valueR true e (dedL l) = .tup [.int (if gotB e l then addV e l else 0), .bool (gotB e l)] := by
  unfold valueR addV codesD
  rw [got_ded, codesL]
  cases gotB e l <;> rfl
/-- What is reached does not hang on how costs are put together. -/
def signE (e : List Int) : List Int := e.map fun x => if 0 ≤ x then 0 else -1
theorem ev_sign (e : List Int) (k : Nat) : ev (signE e) k = if 0 ≤ ev e k then 0 else -1 := by
  unfold ev signE
  simp only [List.getD_eq_getElem?_getD, List.getElem?_map]
  cases e[k]? with
  | none => rfl
  | some x => rfl
theorem sign_pf {P : EP} (hP : P.OK) {add add' : Bool} {e : List Int} (h : IsE P add e) : PF P add' (signE e) := by
  have up : ∀ k, 0 ≤ ev (signE e) k → 0 ≤ ev e k := fun k hk => by rw [ev_sign] at hk; split at hk <;> omega
  have dn : ∀ k, 0 ≤ ev e k → ev (signE e) k = 0 := fun k hk => by rw [ev_sign, if_pos hk]
  refine ⟨fun k hk hh => ?_, fun r hr hg => ?_⟩
  · rw [dn k (h.pf.ini k hk hh).1]; omega
  · rw [dn r.to (h.pf.rul r hr fun x hx => up x (hg x hx)).1]
    refine ⟨Int.le_refl _, ?_⟩
    have h1 := (hP.cost r hr).1
    have h2 := comb_nonneg add' (signE e) r.frm
    unfold rval farI; omega
theorem reach_same {P : EP} (hP : P.OK) {add add' : Bool} {e e' : List Int} (h : IsE P add e) (h' : IsE P add' e') (k : Nat) : 0 ≤ ev e k ↔ 0 ≤ ev e' k := by
  constructor
  · intro hk
    have := (h.jus k hk _ (sign_pf hP h')).1
    rw [ev_sign] at this; split at this <;> omega
  · intro hk
    have := (h'.jus k hk _ (sign_pf hP h)).1
    rw [ev_sign] at this; split at this <;> omega
theorem got_same {P : EP} (hP : P.OK) {add add' : Bool} {e e' : List Int} (h : IsE P add e) (h' : IsE P add' e') (l : List Lit) : gotB e l = gotB e' l := by
  unfold gotB
  congr 1; funext x
  simp only [decide_eq_decide]
  exact reach_same hP h h' _

end Go.Fw

/- What the laws of the relaxation look at first: the example. -/
namespace Go.Fw
open Go Go.Proofs Heap
set_option maxRecDepth 10000

def sHere : ByteArray := ⟨#[104, 101, 114, 101]⟩
def sThere : ByteArray := ⟨#[116, 104, 101, 114, 101]⟩
def sGo : ByteArray := ⟨#[103, 111]⟩
def exAct : Actn := ⟨sGo, 2, false, [⟨0, false⟩], false, [⟨true, [], ⟨0, true⟩⟩, ⟨true, [], ⟨1, false⟩⟩]⟩
def exTask : Task := ⟨false, [sHere, sThere], false, [0], false, [⟨1, false⟩], false, [exAct]⟩
/-- The action, as the program builds it. -/
def exActT : List T := [.v (.string sGo), .v (.int .i64 2), .sl false 2 [tLit ⟨0, false⟩], .sl false 3 [[.sl true 0 [], .v (.int .i64 0), .v (.bool true)], [.sl true 0 [], .v (.int .i64 1), .v (.bool false)]]]

/-- The task as the program builds it may stand for the task. -/
theorem ex_vals {rest : List LV} (β : K → Nat) (RO : Nat → Prop) (w : World) (vals : List Value)
    (h : Vals β RO w (.agg [.t (.sl false 1 [tS sHere, tS sThere]), .t (.sl false 1 [tI 0]), .t (.sl false 2 [tLit ⟨1, false⟩]), .t (.sl false 4 [exActT])] :: rest) vals) : Vals β RO w (.task exTask :: rest) vals := by
  refine ⟨h.1, fun i z v hz hv => ?_⟩
  cases i with
  | succ i => exact h.2 (i + 1) z v hz hv
  | zero =>
    simp only [List.getElem?_cons_zero, Option.some.injEq] at hz
    subst hz
    have h0 := h.2 0 _ v rfl hv
    cases h0 with
    | agg _ vs hl hc h1 =>
    refine .agg _ vs hl (fun i x u hx hu => ?_) h1
    match i with
    | 0 => simp at hx; subst hx; exact hc 0 _ u rfl hu
    | 1 => simp at hx; subst hx; exact hc 1 _ u rfl hu
    | 2 => simp at hx; subst hx; exact hc 2 _ u rfl hu
    | 3 =>
      simp at hx; subst hx
      have h3 := hc 3 _ u rfl hu
      cases h3 with
      | t _ _ h3 => exact .t _ _ (h3.un _ rfl)
    | i + 4 => simp at hx

/-! ### What comes out -/
abbrev exL : List Lit := [⟨0, false⟩, ⟨1, false⟩]
abbrev exE : List Int := [0, 2, 2, 0]
theorem ex_ok : isB exTask = true := by decide
theorem ex_fine : fineI exTask [0] = 0 := by decide
theorem ex_ask : askI exTask [0] exL = 0 := by decide
theorem ex_rules : (epOf exTask [0]).rules = [⟨0, 1, [0], 2⟩, ⟨0, 2, [0], 2⟩] := by rfl
theorem ex_isE (add : Bool) : IsE (epOf exTask [0]) add exE := by
  have h0 : Jus (epOf exTask [0]) add 0 0 := Jus.ini (by decide) (by decide)
  have h3 : Jus (epOf exTask [0]) add 3 0 := Jus.ini (by decide) (by decide)
  have hv : ∀ k, rval add exE ⟨0, k, [0], 2⟩ = 2 := fun k => by cases add <;> rfl
  have hj : ∀ k, (⟨0, k, [0], 2⟩ : Rule) ∈ (epOf exTask [0]).rules → Jus (epOf exTask [0]) add k 2 := fun k hk => by
    have := Jus.rule (add := add) (e := exE) hk fun x hx => by
      simp only [List.mem_cons, List.not_mem_nil, or_false] at hx
      subst hx; exact ⟨by decide, h0⟩
    rw [hv] at this; exact this
  refine ⟨rfl, fun k => ?_, ⟨fun k hk hh => ?_, fun r hr hg => ?_⟩, fun k hk => ?_⟩
  · match k with
    | 0 => decide
    | 1 => decide
    | 2 => decide
    | 3 => decide
    | k + 4 => exact Int.le_refl _
  · match k, hk, hh with
    | 0, _, _ => decide
    | 1, _, hh => exact absurd hh (by decide)
    | 2, _, hh => exact absurd hh (by decide)
    | 3, _, _ => decide
    | k + 4, hk, _ => exact absurd hk (by show ¬ k + 4 < 4; omega)
  · rw [ex_rules] at hr
    simp only [List.mem_cons, List.not_mem_nil, or_false] at hr
    rcases hr with rfl | rfl <;> rw [hv] <;> decide
  · match k, hk with
    | 0, _ => exact h0
    | 1, _ => exact hj 1 (by rw [ex_rules]; exact List.mem_cons_self ..)
    | 2, _ => exact hj 2 (by rw [ex_rules]; exact List.mem_cons_of_mem _ (List.mem_cons_self ..))
    | 3, _ => exact h3
    | k + 4, hk => exact absurd hk (by show ¬ (0 : Int) ≤ -1; decide)
theorem ex_est {add : Bool} {d : Dj} (h : EstOK exTask [0] add d) : d.v = exE := h.est.unique (ex_isE add)
theorem ex_lits : litsOf exE (2 * exTask.facts.length) = [⟨0, false⟩, ⟨0, true⟩, ⟨1, false⟩, ⟨1, true⟩] := by decide
theorem ex_got : gotB exE exL = true := by decide
theorem ex_max : maxV exE exL = 2 := by decide
theorem ex_add : addV exE exL = 2 := by decide
theorem ex_takes : takesB exTask [0] [0] exL = true := by decide
theorem ex_takes0 : takesB exTask [0] [] exL = false := by decide
theorem ex_plan : planB exTask [0] = true := by decide
theorem ex_plan0 : planB exTask [] = true := by decide

theorem flat_ints {e sz : Nat} {b : List Int} : (Ob.row e sz (b.map tI)).flat := by
  intro el hel x hx
  obtain ⟨y, _, rfl⟩ := List.mem_map.1 hel
  simp [tI] at hx; subst hx; trivial
theorem flat_lits {e sz : Nat} {b : List Lit} : (Ob.row e sz (b.map tLit)).flat := by
  intro el hel x hx
  obtain ⟨y, _, rfl⟩ := List.mem_map.1 hel
  simp [tLit] at hx; rcases hx with rfl | rfl <;> trivial
theorem f13n_spec (t : Task) (n1 n3 : Bool) (s : List Int) (l : List Lit) (out : List Fr) : SpecP Try.prog 13 [.task t, .ints n1 s, .t (.sl true 0 []), .lits n3 l] out fun r ro =>
    r = (if askI t s l ≠ 0 then .tup [.bool false, .int (askI t s l)] else if planB t [] = true then .tup [.bool (takesB t s [] l), .int 0] else .tup [.bool false, .int 1]) ∧ ro = [] :=
  SpecP.conv (args' := [.task t, .ints n1 s, .ints true [], .lits n3 l]) (fun β RO w vals hv => ⟨hv.1, fun i z v hz hvz => by
    match i with
    | 0 => exact hv.2 0 z v hz hvz
    | 1 => exact hv.2 1 z v hz hvz
    | 2 => simp at hz; subst hz; exact nil_sz _ _ _ _ (hv.2 2 _ v rfl hvz)
    | 3 => exact hv.2 3 z v hz hvz
    | i + 4 => simp at hz⟩) (f13_spec t n1 true n3 s [] l out)
theorem f8_spec (out : List Fr) : SpecP Try.prog 8 [] out fun r ro => r = .bool true ∧ ro = [] := by
  refine spec_body cx_ok [] [] (fn := Try.f8) (by kernel_rfl) rfl (by kernel_rfl) rfl (by unfold FnOK; kernel_rfl) fun hok => ?_
  refine And.intro (Nat.le_of_ble_eq_true rfl) (And.intro (Nat.le_of_ble_eq_true rfl) ?_)
  refine Exists.intro [tS sHere, tS sThere] (And.intro rfl (And.intro (Nat.le_of_ble_eq_true rfl) ?_))
  refine Exists.intro [tI 0] (And.intro rfl (And.intro (Nat.le_of_ble_eq_true rfl) ?_))
  refine Exists.intro [tLit ⟨1, false⟩] (And.intro rfl (And.intro (Nat.le_of_ble_eq_true rfl) ?_))
  refine Exists.intro [exActT] (And.intro rfl (And.intro (Nat.le_of_ble_eq_true rfl) ?_))
  refine Exists.intro [tI 0] (And.intro rfl (And.intro (Nat.le_of_ble_eq_true rfl) ?_))
  refine Exists.intro (exL.map tLit) (And.intro rfl (And.intro (Nat.le_of_ble_eq_true rfl) ?_))
  refine SpecP.conv ex_vals (SpecP.mono (f9_spec exTask false false [0] exL _) ?_)
  rintro _ _ ⟨⟨h, _⟩ | ⟨_, d, hd, rfl⟩, rfl⟩
  · exact absurd ex_ask h
  rw [ex_est hd, ex_max, ex_got]
  clear hd d
  refine And.intro ⟨trivial, trivial, trivial, trivial⟩ (And.intro trivial ?_)
  refine And.intro (fun _ => ?_) fun h => absurd h (by decide)
  refine Exists.intro [tS sHere, tS sThere] (And.intro rfl (And.intro (Nat.le_of_ble_eq_true rfl) ?_))
  refine Exists.intro [tI 0] (And.intro rfl (And.intro (Nat.le_of_ble_eq_true rfl) ?_))
  refine Exists.intro [tLit ⟨1, false⟩] (And.intro rfl (And.intro (Nat.le_of_ble_eq_true rfl) ?_))
  refine Exists.intro [exActT] (And.intro rfl (And.intro (Nat.le_of_ble_eq_true rfl) ?_))
  refine Exists.intro [tI 0] (And.intro rfl (And.intro (Nat.le_of_ble_eq_true rfl) ?_))
  refine Exists.intro (exL.map tLit) (And.intro rfl (And.intro (Nat.le_of_ble_eq_true rfl) ?_))
  refine SpecP.conv ex_vals (SpecP.mono (f10_spec exTask false false [0] exL (by decide) _) ?_)
  rintro _ _ ⟨⟨h, _⟩ | ⟨_, d, hd, rfl⟩, rfl⟩
  · exact absurd ex_ask h
  rw [ex_est hd, ex_add, ex_got, if_neg (by decide), if_neg (by decide)]
  clear hd d
  refine And.intro ⟨trivial, trivial, trivial, trivial⟩ (And.intro trivial ?_)
  refine And.intro (fun _ => ?_) fun h => absurd h (by decide)
  refine Exists.intro [tS sHere, tS sThere] (And.intro rfl (And.intro (Nat.le_of_ble_eq_true rfl) ?_))
  refine Exists.intro [tI 0] (And.intro rfl (And.intro (Nat.le_of_ble_eq_true rfl) ?_))
  refine Exists.intro [tLit ⟨1, false⟩] (And.intro rfl (And.intro (Nat.le_of_ble_eq_true rfl) ?_))
  refine Exists.intro [exActT] (And.intro rfl (And.intro (Nat.le_of_ble_eq_true rfl) ?_))
  refine Exists.intro [tI 0] (And.intro rfl (And.intro (Nat.le_of_ble_eq_true rfl) ?_))
  refine SpecP.conv ex_vals (SpecP.mono (f18_spec exTask false [0] _) ?_)
  rintro _ _ (⟨h, _⟩ | ⟨_, d, hd, h1, h2⟩)
  · exact absurd ex_fine h
  rw [ex_est hd, ex_lits] at h1 h2
  subst h1 h2
  clear hd d
  refine And.intro ⟨trivial, trivial, trivial⟩ (And.intro ⟨flat_lits (b := [⟨0, false⟩, ⟨0, true⟩, ⟨1, false⟩, ⟨1, true⟩]), trivial⟩ ?_)
  refine Exists.intro [tS sHere, tS sThere] (And.intro rfl (And.intro (Nat.le_of_ble_eq_true rfl) ?_))
  refine Exists.intro [tI 0] (And.intro rfl (And.intro (Nat.le_of_ble_eq_true rfl) ?_))
  refine Exists.intro [tLit ⟨1, false⟩] (And.intro rfl (And.intro (Nat.le_of_ble_eq_true rfl) ?_))
  refine Exists.intro [exActT] (And.intro rfl (And.intro (Nat.le_of_ble_eq_true rfl) ?_))
  refine Exists.intro [tI 0] (And.intro rfl (And.intro (Nat.le_of_ble_eq_true rfl) ?_))
  refine Exists.intro (exL.map tLit) (And.intro rfl (And.intro (Nat.le_of_ble_eq_true rfl) ?_))
  refine SpecP.conv ex_vals (SpecP.mono (f14_spec exTask false false [0] exL (by decide) _) ?_)
  rintro _ _ (⟨h, _⟩ | ⟨_, d, hd, ⟨h, _⟩ | ⟨_, p, hp, h1, h2⟩⟩)
  · exact absurd ex_ask h
  · rw [ex_est hd, ex_got] at h; cases h
  obtain ⟨x, q, rfl⟩ : ∃ x q, p = x :: q := by
    cases p with
    | nil => have := hp.takes; rw [ex_takes0] at this; cases this
    | cons x q => exact ⟨x, q, rfl⟩
  have hlen : (tI x :: q.map tI).length ≤ 4 := by
    have := hp.len
    rw [ex_est hd, ex_lits] at this
    simpa using this
  subst h1 h2
  clear hp
  refine And.intro ⟨trivial, trivial, trivial, trivial⟩ (And.intro ⟨flat_ints (b := x :: q), trivial⟩ ?_)
  refine And.intro (fun _ => ?_) fun h => absurd h (by decide)
  refine Exists.intro [tS sHere, tS sThere] (And.intro rfl (And.intro (Nat.le_of_ble_eq_true rfl) ?_))
  refine Exists.intro [tI 0] (And.intro rfl (And.intro (Nat.le_of_ble_eq_true rfl) ?_))
  refine Exists.intro [tLit ⟨1, false⟩] (And.intro rfl (And.intro (Nat.le_of_ble_eq_true rfl) ?_))
  refine Exists.intro [exActT] (And.intro rfl (And.intro (Nat.le_of_ble_eq_true rfl) ?_))
  refine Exists.intro [tI 0] (And.intro rfl (And.intro (Nat.le_of_ble_eq_true rfl) ?_))
  refine Exists.intro [tI 0] (And.intro rfl (And.intro (Nat.le_of_ble_eq_true rfl) ?_))
  refine Exists.intro (exL.map tLit) (And.intro rfl (And.intro (Nat.le_of_ble_eq_true rfl) ?_))
  refine SpecP.conv ex_vals (SpecP.mono (f13_spec exTask false false false [0] [0] exL _) ?_)
  rintro _ _ ⟨rfl, rfl⟩
  rw [if_neg (fun h => h ex_ask), if_pos ex_plan, ex_takes]
  refine And.intro ⟨trivial, trivial, trivial⟩ (And.intro trivial ?_)
  refine And.intro (fun _ => ?_) fun h => absurd h (by decide)
  refine Exists.intro [tS sHere, tS sThere] (And.intro rfl (And.intro (Nat.le_of_ble_eq_true rfl) ?_))
  refine Exists.intro [tI 0] (And.intro rfl (And.intro (Nat.le_of_ble_eq_true rfl) ?_))
  refine Exists.intro [tLit ⟨1, false⟩] (And.intro rfl (And.intro (Nat.le_of_ble_eq_true rfl) ?_))
  refine Exists.intro [exActT] (And.intro rfl (And.intro (Nat.le_of_ble_eq_true rfl) ?_))
  refine Exists.intro [tI 0] (And.intro rfl (And.intro (Nat.le_of_ble_eq_true rfl) ?_))
  refine Exists.intro (exL.map tLit) (And.intro rfl (And.intro (Nat.le_of_ble_eq_true rfl) ?_))
  refine SpecP.conv ex_vals (SpecP.mono (f13n_spec exTask false false [0] exL _) ?_)
  rintro _ _ ⟨rfl, rfl⟩
  rw [if_neg (fun h => h ex_ask), if_pos ex_plan0, ex_takes0]
  refine And.intro ⟨trivial, trivial, trivial⟩ (And.intro trivial ?_)
  refine And.intro (fun h => absurd h (by decide)) fun _ => ?_
  refine And.intro (fun _ => ?_) fun h => absurd h (by decide)
  refine And.intro (fun _ => ?_) fun h => absurd h (by decide)
  refine And.intro (fun _ => ?_) fun h => absurd h (by decide)
  refine And.intro (fun _ => ?_) fun h => absurd h (by decide)
  refine And.intro (fun _ => ?_) fun h => absurd h (by decide)
  refine And.intro (fun _ => ?_) fun h => absurd h (by decide)
  refine And.intro (fun _ => ?_) fun h => absurd (of_decide_eq_false h) (by simp)
  refine And.intro (fun _ => ?_) fun h => absurd h (by decide)
  refine And.intro (fun _ => ?_) fun h => absurd h (by decide)
  refine And.intro (fun _ => ?_) fun h => absurd h (by decide)
  exact Exists.intro [] (And.intro rfl rfl)

end Go.Fw

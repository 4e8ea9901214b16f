/- States after actions, lists of actions that are executed. -/
import Derived.Test.YtjmekjoomdblfaaGreatZM

/- What the program's functions do: states after actions, lists of actions that are executed. -/
namespace Go.Fw
open Go Go.Proofs Heap
set_option maxRecDepth 10000

theorem g88_spec (n1 : Bool) (l : List Int) (n x : Int) (hs : risingB l n = true) (hn : n ≤ 1000000000) (out : List Fr) : SpecP Tryz.prog 68 [.ints n1 l, .int x] out fun r ro => r = .bool (hasB l x) ∧ ro = [] := by
  refine spec_body cx_ok [] [] (fn := Tryz.f68) (by kernel_rfl) rfl (by kernel_rfl) rfl (by unfold FnOK; kernel_rfl) fun hok => ?_
  refine SpecP.mono (f53_spec n1 l n x hs hn []) ?_
  rintro _ _ ⟨p, rfl, rfl⟩
  refine And.intro (fun h => ?_) fun h => ?_
  · exact Exists.intro [] (ret_bool h rfl)
  · exact Exists.intro [] (ret_bool h rfl)
def god87 : Od := [(1, [(0, .pure), (1, .pure), (2, .pure), (4, .pure), (5, .pure), (3, .eff), (6, .pure), (7, .pure)])]
theorem g87_spec (n1 : Bool) (s : List Int) (n : Int) (hs : risingB s n = true) (hn : n ≤ 1000000000) (x : Lit) (fr0 fr1 fr2 : Fr) (out : List Fr) :
    SpecP Tryz.prog 67 [.lit x, .ptr (.fr 2 16) 0] (fr0 :: fr1 :: ((16, .box [.ints n1 s]) :: fr2) :: out) fun r ro => r = .bool (hasB s x.fact == x.neg) ∧ ro = [] := by
  refine spec_body cx_ok [] god87 (fn := Tryz.f67) (by kernel_rfl) rfl (by kernel_rfl) rfl (by unfold FnOK; kernel_rfl) fun hok => ?_
  refine Exists.intro _ (And.intro rfl ?_)
  refine And.intro (fun h1 => ?_) fun h1 => ?_
  · refine SpecP.mono (g88_spec n1 s n x.fact hs hn []) ?_
    rintro _ _ ⟨rfl, rfl⟩
    refine And.intro ⟨rfl, rfl, rfl⟩ ?_
    refine And.intro (fun h2 => ?_) fun h2 => ?_
    · refine And.intro (fun h3 => ?_) fun h3 => ?_
      · exact Exists.intro [] (ret_bool (by rw [h1, h2]; exact h3) rfl)
      · exact Exists.intro [] (ret_bool (by rw [h1, h2]; exact h3) rfl)
    · refine And.intro (fun h3 => ?_) fun h3 => ?_
      · exact Exists.intro [] (ret_bool (by rw [h1, h2]; exact h3) rfl)
      · exact Exists.intro [] (ret_bool (by rw [h1, h2]; exact h3) rfl)
  · refine SpecP.mono (g88_spec n1 s n x.fact hs hn []) ?_
    rintro _ _ ⟨rfl, rfl⟩
    refine And.intro ⟨rfl, rfl, rfl⟩ ?_
    refine And.intro (fun h2 => ?_) fun h2 => ?_
    · refine And.intro (fun h3 => ?_) fun h3 => ?_
      · exact Exists.intro [] (ret_bool (by rw [h1, h2]; exact h3) rfl)
      · exact Exists.intro [] (ret_bool (by rw [h1, h2]; exact h3) rfl)
    · refine And.intro (fun h3 => ?_) fun h3 => ?_
      · exact Exists.intro [] (ret_bool (by rw [h1, h2]; exact h3) rfl)
      · exact Exists.intro [] (ret_bool (by rw [h1, h2]; exact h3) rfl)
theorem g56_spec (n1 n2 : Bool) (s : List Int) (l : List Lit) (n : Int) (hs : risingB s n = true) (hn : n ≤ 1000000000) (out : List Fr) :
    SpecP Tryz.prog 52 [.ints n1 s, .lits n2 l] out fun r ro => r = .bool (holdsB s l) ∧ ro = [] := by
  refine spec_body cx_ok [] [] (fn := Tryz.f52) (by kernel_rfl) rfl (by kernel_rfl) rfl (by unfold FnOK; kernel_rfl) fun hok => ?_
  refine SpecP.mono (f65_spec n2 l 67 0 16 (fun x => hasB s x.fact == x.neg) _ (fun x _ => g87_spec n1 s n hs hn x [] [] [] out)) ?_
  rintro _ _ ⟨rfl, rfl⟩
  refine And.intro trivial (And.intro trivial ?_)
  have e : holdsB s l = !l.any (fun x => hasB s x.fact == x.neg) := not_any fun x => by cases hasB s x.fact <;> cases x.neg <;> rfl
  refine And.intro (fun h => ?_) fun h => ?_
  · exact Exists.intro [] (ret_bool (e.trans (congrArg not h)) rfl)
  · exact Exists.intro [] (ret_bool (e.trans (congrArg not h)) rfl)
def negStep (s : List Int) (b : List Bool) (e : Eff) : List Bool := if (e.lit.neg && holdsB s e.when_) = true then b.set e.lit.fact.toNat false else b
def posStep (s : List Int) (b : List Bool) (e : Eff) : List Bool := if (!e.lit.neg && holdsB s e.when_) = true then b.set e.lit.fact.toNat true else b
def negAll (n : Nat) (s : List Int) (l : List Eff) : List Bool := l.foldl (negStep s) (bitsL n s)
def afterBits (n : Nat) (s : List Int) (l : List Eff) : List Bool := l.foldl (posStep s) (negAll n s l)
def afterL (n : Nat) (s : List Int) (l : List Eff) : List Int := listL (afterBits n s l)
theorem foldl_len {f : List Bool → Eff → List Bool} (h : ∀ b e, (f b e).length = b.length) : ∀ (l : List Eff) (b : List Bool), (l.foldl f b).length = b.length
  | [], _ => rfl
  | e :: r, b => by rw [List.foldl_cons, foldl_len h r, h]
theorem neg_len (s : List Int) (b : List Bool) (e : Eff) : (negStep s b e).length = b.length := by unfold negStep; split <;> simp
theorem pos_len (s : List Int) (b : List Bool) (e : Eff) : (posStep s b e).length = b.length := by unfold posStep; split <;> simp
theorem listFrom_mem {x : Int} : ∀ {l : List Bool} {k : Nat}, x ∈ listFrom k l ↔ ∃ i, i < l.length ∧ l.getD i false = true ∧ x = ((k + i : Nat) : Int)
  | [], k => by simp [listFrom]
  | b :: r, k => by
    rw [listFrom, List.mem_append, listFrom_mem]
    constructor
    · rintro (h | ⟨i, hi, hb, hx⟩)
      · cases b with
        | false => simp at h
        | true => simp at h; exact ⟨0, by simp, rfl, by simpa using h⟩
      · exact ⟨i + 1, by simpa using hi, by simpa using hb, by rw [hx]; congr 1; omega⟩
    · rintro ⟨i, hi, hb, hx⟩
      cases i with
      | zero => simp at hb; subst hb; exact .inl (by simpa using hx)
      | succ i => exact .inr ⟨i, by simpa using hi, by simpa using hb, by rw [hx]; congr 1; omega⟩
theorem hasB_listL (b : List Bool) (f : Nat) : hasB (listL b) (f : Int) = b.getD f false := by
  rw [Bool.eq_iff_iff, hasB, List.any_eq_true]
  constructor
  · rintro ⟨x, hx, hf⟩
    obtain ⟨i, _, hb, rfl⟩ := listFrom_mem.1 hx
    have : i = f := by simp at hf; omega
    subst this; exact hb
  · intro hb
    refine ⟨(f : Int), listFrom_mem.2 ⟨f, ?_, hb, by simp⟩, by simp⟩
    rcases Nat.lt_or_ge f b.length with h | h
    · exact h
    · rw [List.getD_eq_getElem?_getD, List.getElem?_eq_none h] at hb; cases hb
theorem listL_in (b : List Bool) : ∀ x ∈ listL b, 0 ≤ x ∧ x < (b.length : Int) := fun x hx => by
  obtain ⟨i, hi, _, rfl⟩ := listFrom_mem.1 hx
  omega
def factsIn (n : Nat) (l : List Eff) : Prop := ∀ e ∈ l, litIn n e.lit
theorem lit_eq {l : Lit} {f : Nat} {v : Bool} (h0 : 0 ≤ l.fact) (h : l.fact.toNat = f) (hv : l.neg = v) : l = ⟨(f : Int), v⟩ := by
  cases l; simp at h0 h hv; simp [hv]; omega
theorem neg_true {s : List Int} {n f : Nat} : ∀ {l : List Eff} {b : List Bool}, factsIn n l → b.length = n → (l.foldl (negStep s) b).getD f false = true → b.getD f false = true
  | [], _, _, _, h => h
  | e :: r, b, hl, hb, h => by
    rw [List.foldl_cons] at h
    have := neg_true (fun x hx => hl x (List.mem_cons_of_mem _ hx)) (by rw [neg_len, hb]) h
    have hin := hl e (List.mem_cons_self ..)
    unfold negStep at this
    split at this
    · rw [getD_set (by have := hin.1; have := hin.2; omega)] at this
      split at this
      · cases this
      · exact this
    · exact this
theorem neg_false {s : List Int} {n f : Nat} : ∀ {l : List Eff} {b : List Bool}, factsIn n l → b.length = n → (l.foldl (negStep s) b).getD f false = false → b.getD f false = false ∨ ∃ e ∈ l, e.lit = ⟨(f : Int), true⟩ ∧ holdsB s e.when_ = true
  | [], _, _, _, h => .inl h
  | e :: r, b, hl, hb, h => by
    rw [List.foldl_cons] at h
    have hin := hl e (List.mem_cons_self ..)
    rcases neg_false (fun x hx => hl x (List.mem_cons_of_mem _ hx)) (by rw [neg_len, hb]) h with this | ⟨x, hx, h1⟩
    · unfold negStep at this
      split at this
      · rename_i hc
        rw [Bool.and_eq_true] at hc
        rw [getD_set (by have := hin.1; have := hin.2; omega)] at this
        split at this
        · rename_i hf; exact .inr ⟨e, List.mem_cons_self .., lit_eq hin.1 hf hc.1, hc.2⟩
        · exact .inl this
      · exact .inl this
    · exact .inr ⟨x, List.mem_cons_of_mem _ hx, h1⟩
theorem pos_false {s : List Int} {n f : Nat} : ∀ {l : List Eff} {b : List Bool}, factsIn n l → b.length = n → (l.foldl (posStep s) b).getD f false = false → b.getD f false = false
  | [], _, _, _, h => h
  | e :: r, b, hl, hb, h => by
    rw [List.foldl_cons] at h
    have := pos_false (fun x hx => hl x (List.mem_cons_of_mem _ hx)) (by rw [pos_len, hb]) h
    have hin := hl e (List.mem_cons_self ..)
    unfold posStep at this
    split at this
    · rw [getD_set (by have := hin.1; have := hin.2; omega)] at this
      split at this
      · cases this
      · exact this
    · exact this
theorem pos_true {s : List Int} {n f : Nat} : ∀ {l : List Eff} {b : List Bool}, factsIn n l → b.length = n → (l.foldl (posStep s) b).getD f false = true → b.getD f false = true ∨ ∃ e ∈ l, e.lit = ⟨(f : Int), false⟩ ∧ holdsB s e.when_ = true
  | [], _, _, _, h => .inl h
  | e :: r, b, hl, hb, h => by
    rw [List.foldl_cons] at h
    have hin := hl e (List.mem_cons_self ..)
    rcases pos_true (fun x hx => hl x (List.mem_cons_of_mem _ hx)) (by rw [pos_len, hb]) h with this | ⟨x, hx, h1⟩
    · unfold posStep at this
      split at this
      · rename_i hc
        rw [Bool.and_eq_true, Bool.not_eq_true'] at hc
        rw [getD_set (by have := hin.1; have := hin.2; omega)] at this
        split at this
        · rename_i hf; exact .inr ⟨e, List.mem_cons_self .., lit_eq hin.1 hf hc.1, hc.2⟩
        · exact .inl this
      · exact .inl this
    · exact .inr ⟨x, List.mem_cons_of_mem _ hx, h1⟩
theorem afterBits_len (n : Nat) (s : List Int) (l : List Eff) : (afterBits n s l).length = n := by
  rw [afterBits, foldl_len (pos_len s), negAll, foldl_len (neg_len s), bitsL_length]
theorem after_true {n : Nat} {s : List Int} {l : List Eff} {f : Nat} (hl : factsIn n l) (hs : ∀ x ∈ s, 0 ≤ x ∧ x < (n : Int)) (hf : f < n) (h : hasB (afterL n s l) (f : Int) = true) : hasB s (f : Int) = true ∨ ∃ e ∈ l, e.lit = ⟨(f : Int), false⟩ ∧ holdsB s e.when_ = true := by
  rw [afterL, hasB_listL] at h
  rcases pos_true hl (by rw [negAll, foldl_len (neg_len s), bitsL_length]) h with h | h
  · have := neg_true hl (bitsL_length _ _) h
    rw [bits_get hs hf] at this; exact .inl this
  · exact .inr h
theorem after_false {n : Nat} {s : List Int} {l : List Eff} {f : Nat} (hl : factsIn n l) (hs : ∀ x ∈ s, 0 ≤ x ∧ x < (n : Int)) (hf : f < n) (h : hasB (afterL n s l) (f : Int) = false) : hasB s (f : Int) = false ∨ ∃ e ∈ l, e.lit = ⟨(f : Int), true⟩ ∧ holdsB s e.when_ = true := by
  rw [afterL, hasB_listL] at h
  have h := pos_false hl (by rw [negAll, foldl_len (neg_len s), bitsL_length]) h
  rcases neg_false hl (bitsL_length _ _) h with h | h
  · rw [bits_get hs hf] at h; exact .inl h
  · exact .inr h
theorem after_in (n : Nat) (s : List Int) (l : List Eff) : ∀ x ∈ afterL n s l, 0 ≤ x ∧ x < (n : Int) := fun x hx => by
  have := listL_in _ x hx
  rwa [afterBits_len] at this
def pAct (t : Task) (p : List Int) (i : Nat) : Actn := match t.acts[(p.getD i 0).toNat]? with
  | some x => x
  | none => ⟨⟨#[]⟩, 0, true, [], true, []⟩
def stAt (t : Task) (s p : List Int) : Nat → List Int
  | 0 => s
  | i + 1 => afterL t.facts.length (stAt t s p i) (pAct t p i).effs
def costAt (t : Task) (p : List Int) : Nat → Int
  | 0 => 0
  | i + 1 => costAt t p i + (pAct t p i).cost
def okAt (t : Task) (s p : List Int) (i : Nat) : Bool := holdsB (stAt t s p i) (pAct t p i).pre
theorem plan_get {t : Task} {p : List Int} (hp : planB t p = true) {i : Nat} (hi : i < p.length) : ∃ k : Nat, p[i] = (k : Int) ∧ ∃ hk : k < t.acts.length, pAct t p i = t.acts[k] ∧ t.acts[(p.getD i 0).toNat]? = some (pAct t p i) ∧ (p.getD i 0).toNat = k := by
  simp only [planB, Bool.and_eq_true, List.all_eq_true, decide_eq_true_eq] at hp
  have h := hp.2 _ (List.getElem_mem hi)
  have hg : p.getD i 0 = p[i] := by rw [List.getD_eq_getElem?_getD, List.getElem?_eq_getElem hi]; rfl
  have hk : p[i].toNat < t.acts.length := by omega
  refine ⟨p[i].toNat, by omega, hk, ?_, ?_, by rw [hg]⟩
  · rw [pAct, hg, List.getElem?_eq_getElem hk]
  · rw [pAct, hg, List.getElem?_eq_getElem hk]
theorem stAt_in {t : Task} {s p : List Int} (hs : ∀ x ∈ s, 0 ≤ x ∧ x < (t.facts.length : Int)) : ∀ i, ∀ x ∈ stAt t s p i, 0 ≤ x ∧ x < (t.facts.length : Int)
  | 0 => hs
  | _ + 1 => after_in _ _ _
theorem holds_one (s : List Int) (l : Lit) : holdsB s [l] = (hasB s l.fact != l.neg) := by simp [holdsB]
theorem holds_mem {s : List Int} {l : List Lit} (h : holdsB s l = true) : ∀ x ∈ l, holdsB s [x] = true := fun x hx => by
  rw [holds_one]; exact List.all_eq_true.1 h x hx
def kvI (l : List Int) : List (Value × T) := l.map fun x => (.int .i64 x, .v (.bool true))
theorem look_kvI (x : Int) : ∀ l : List Int, lookKV (.int .i64 x) (.v (.bool false)) (kvI l) = .v (.bool (hasB l x))
  | [] => rfl
  | y :: r => by
    have ih := look_kvI x r
    simp only [kvI, List.map_cons, lookKV, hasB, List.any_cons] at ih ⊢
    by_cases h : x = y
    · rw [if_pos (show sameK (.int .i64 x) (.int .i64 y) = true by simp [sameK, h])]
      simp [h]
    · have h2 : (y == x) = false := by simpa using fun hh => h hh.symm
      rw [if_neg (show ¬ sameK (.int .i64 x) (.int .i64 y) = true by simpa [sameK] using h), ih, h2, Bool.false_or]
def sSz : List Int → Nat
  | [] => 0
  | _ :: _ => 1
def sT (s : List Int) : T := .sl s.isEmpty (sSz s) (s.map tI)
theorem hts_of {t : Task} {s : List Int} (h0 : fineI t s = 0) : isB t = true ∧ risingB s t.facts.length = true := by
  unfold fineI at h0
  cases h1 : isB t <;> cases h2 : risingB s t.facts.length <;> simp [h1, h2] at h0
  exact ⟨rfl, rfl⟩
theorem costAt_in {t : Task} {p : List Int} (TK : TaskOK t) (hp : planB t p = true) : ∀ i, i ≤ p.length → 0 ≤ costAt t p i ∧ costAt t p i ≤ 100000 * (i : Int)
  | 0, _ => by simp [costAt]
  | i + 1, hi => by
    have := costAt_in TK hp i (by omega)
    obtain ⟨k, _, hk2, hk3, _⟩ := plan_get hp (show i < p.length by omega)
    have hc := TK.cost _ (List.getElem_mem hk2)
    rw [costAt, hk3]; omega
theorem perm_eraseIdx {α : Type} {a : α} : ∀ {l : List α} {i : Nat}, l[i]? = some a → l.Perm (a :: l.eraseIdx i)
  | [], i, h => by simp at h
  | x :: r, 0, h => by simp at h; subst h; exact List.Perm.refl _
  | x :: r, i + 1, h => by
    have ih := perm_eraseIdx (l := r) (i := i) (by simpa using h)
    rw [List.eraseIdx_cons_succ]
    exact (ih.cons x).trans (List.Perm.swap _ _ _)
theorem inc_ext : ∀ {l m : List Int}, l.Pairwise (· < ·) → m.Pairwise (· < ·) → (∀ x, x ∈ l ↔ x ∈ m) → l = m
  | [], [], _, _, _ => rfl
  | [], b :: m, _, _, h => by have := (h b).2 (List.mem_cons_self ..); cases this
  | a :: l, [], _, _, h => by have := (h a).1 (List.mem_cons_self ..); cases this
  | a :: l, b :: m, hl, hm, h => by
    obtain ⟨hl1, hl2⟩ := List.pairwise_cons.1 hl
    obtain ⟨hm1, hm2⟩ := List.pairwise_cons.1 hm
    have hab : a = b := by
      rcases List.mem_cons.1 ((h a).1 (List.mem_cons_self ..)) with h1 | h1
      · exact h1
      · rcases List.mem_cons.1 ((h b).2 (List.mem_cons_self ..)) with h2 | h2
        · exact h2.symm
        · have := hm1 a h1; have := hl1 b h2; omega
    subst hab
    rw [inc_ext hl2 hm2 fun x => ?_]
    constructor
    · intro hx
      rcases List.mem_cons.1 ((h x).1 (List.mem_cons_of_mem _ hx)) with h1 | h1
      · have := hl1 x hx; omega
      · exact h1
    · intro hx
      rcases List.mem_cons.1 ((h x).2 (List.mem_cons_of_mem _ hx)) with h1 | h1
      · have := hm1 x hx; omega
      · exact h1
theorem listFrom_inc : ∀ (b : List Bool) (k : Nat), (listFrom k b).Pairwise (· < ·) ∧ ∀ x ∈ listFrom k b, (k : Int) ≤ x
  | [], k => ⟨.nil, by simp [listFrom]⟩
  | b :: r, k => by
    obtain ⟨h1, h2⟩ := listFrom_inc r (k + 1)
    cases b with
    | false => exact ⟨by simpa [listFrom] using h1, fun x hx => by have := h2 x (by simpa [listFrom] using hx); omega⟩
    | true =>
      have e : listFrom k (true :: r) = (k : Int) :: listFrom (k + 1) r := rfl
      rw [e]
      refine ⟨List.pairwise_cons.2 ⟨fun x hx => by have := h2 x hx; omega, h1⟩, fun x hx => ?_⟩
      rcases List.mem_cons.1 hx with rfl | hx
      · omega
      · have := h2 x hx; omega
theorem listL_inc (b : List Bool) : (listL b).Pairwise (· < ·) := (listFrom_inc b 0).1
theorem rising_inc {l : List Int} {n : Int} (h : risingB l n = true) : l.Pairwise (· < ·) := List.pairwise_iff_getElem.2 fun i j _ hj hij => rising_lt h j i hj hij
theorem inc_nodup {l : List Int} (h : l.Pairwise (· < ·)) : l.Nodup := h.imp fun hab => by omega
theorem hasB_mem {l : List Int} {x : Int} : hasB l x = true ↔ x ∈ l := by simp [hasB, List.any_eq_true]
theorem sort_inc {L M : List Int} (hn : L.Nodup) (hM : M.Pairwise (· < ·)) (h : ∀ x, x ∈ L ↔ x ∈ M) : (L.mergeSort fun x y => decide (x ≤ y)) = M := by
  have hp := List.mergeSort_perm L fun x y => decide (x ≤ y)
  have hs := List.pairwise_mergeSort (le := fun x y : Int => decide (x ≤ y)) (fun a b c h1 h2 => by simp at *; omega) (fun a b => by simp; omega) L
  have hn' := hp.nodup_iff.2 hn
  refine inc_ext ((hs.and hn').imp fun ⟨h1, h2⟩ => by simp at h1; omega) hM fun x => ?_
  rw [hp.mem_iff]; exact h x
def posB (s : List Int) (l : List Eff) (x : Int) : Bool := l.any fun e => (!e.lit.neg && holdsB s e.when_) && e.lit.fact == x
def negB (s : List Int) (l : List Eff) (x : Int) : Bool := l.any fun e => (e.lit.neg && holdsB s e.when_) && e.lit.fact == x
theorem neg_get {s : List Int} {n f : Nat} : ∀ {l : List Eff} {b : List Bool}, factsIn n l → b.length = n → (l.foldl (negStep s) b).getD f false = (b.getD f false && !negB s l (f : Int))
  | [], b, _, _ => by simp [negB]
  | e :: r, b, hl, hb => by
    have hin := hl e (List.mem_cons_self ..)
    rw [List.foldl_cons, neg_get (fun x hx => hl x (List.mem_cons_of_mem _ hx)) (by rw [neg_len, hb])]
    have e1 : negB s (e :: r) (f : Int) = (((e.lit.neg && holdsB s e.when_) && e.lit.fact == (f : Int)) || negB s r (f : Int)) := rfl
    rw [e1]
    unfold negStep
    split
    · rename_i hc
      rw [hc, getD_set (by have := hin.1; have := hin.2; omega)]
      by_cases hf : e.lit.fact.toNat = f
      · rw [if_pos hf]
        have : (e.lit.fact == (f : Int)) = true := by simp; have := hin.1; omega
        simp [this]
      · rw [if_neg hf]
        have : (e.lit.fact == (f : Int)) = false := by simp; intro h; exact hf (by omega)
        simp [this]
    · rename_i hc
      have hc : (e.lit.neg && holdsB s e.when_) = false := by simpa using hc
      rw [hc]; simp
theorem pos_get {s : List Int} {n f : Nat} : ∀ {l : List Eff} {b : List Bool}, factsIn n l → b.length = n → (l.foldl (posStep s) b).getD f false = (b.getD f false || posB s l (f : Int))
  | [], b, _, _ => by simp [posB]
  | e :: r, b, hl, hb => by
    have hin := hl e (List.mem_cons_self ..)
    rw [List.foldl_cons, pos_get (fun x hx => hl x (List.mem_cons_of_mem _ hx)) (by rw [pos_len, hb])]
    have e1 : posB s (e :: r) (f : Int) = (((!e.lit.neg && holdsB s e.when_) && e.lit.fact == (f : Int)) || posB s r (f : Int)) := rfl
    rw [e1]
    unfold posStep
    split
    · rename_i hc
      rw [hc, getD_set (by have := hin.1; have := hin.2; omega)]
      by_cases hf : e.lit.fact.toNat = f
      · rw [if_pos hf]
        have : (e.lit.fact == (f : Int)) = true := by simp; have := hin.1; omega
        simp [this]
      · rw [if_neg hf]
        have : (e.lit.fact == (f : Int)) = false := by simp; intro h; exact hf (by omega)
        simp [this]
    · rename_i hc
      have hc : (!e.lit.neg && holdsB s e.when_) = false := by simpa using hc
      rw [hc]; simp
theorem after_get {n : Nat} {s : List Int} {l : List Eff} {f : Nat} (hl : factsIn n l) (hs : ∀ x ∈ s, 0 ≤ x ∧ x < (n : Int)) (hf : f < n) : hasB (afterL n s l) (f : Int) = ((hasB s (f : Int) && !negB s l (f : Int)) || posB s l (f : Int)) := by
  rw [afterL, hasB_listL, afterBits, pos_get hl (by rw [negAll, foldl_len (neg_len s), bitsL_length]), negAll, neg_get hl (bitsL_length _ _), bits_get hs hf]
/-- What the program gathers, sorted, is the state after the action. -/
theorem after_sort {n : Nat} {s : List Int} {l : List Eff} {A A' D : List Int} (hl : factsIn n l) (hs : risingB s n = true) (hA : ∀ x, hasB A x = posB s l x) (hD : ∀ x, hasB D x = negB s l x) (hn : A.Nodup) (hp : A'.Perm A) :
    ((s.filter (fun x => !hasB D x || hasB A x) ++ A'.filter fun x => !hasB s x).mergeSort fun x y => decide (x ≤ y)) = afterL n s l := by
  have hin := rising_in hs
  have hns := inc_nodup (rising_inc hs)
  refine sort_inc ?_ (listL_inc _) fun x => ?_
  · refine List.nodup_append.2 ⟨hns.filter _, (hp.nodup_iff.2 hn).filter _, fun a ha b hb hab => ?_⟩
    subst hab
    have h1 := (List.mem_filter.1 ha).1
    have h2 := (List.mem_filter.1 hb).2
    rw [hasB_mem.2 h1] at h2; cases h2
  · have key : ∀ f : Nat, f < n → ((f : Int) ∈ (s.filter (fun x => !hasB D x || hasB A x) ++ A'.filter fun x => !hasB s x) ↔ hasB (afterL n s l) (f : Int) = true) := by
      intro f hf
      rw [after_get hl hin hf, List.mem_append, List.mem_filter, List.mem_filter, hp.mem_iff, ← hasB_mem (l := s), ← hasB_mem (l := A), hA, hD]
      cases hasB s (f : Int) <;> cases negB s l (f : Int) <;> cases posB s l (f : Int) <;> simp
    have hmemA : ∀ x ∈ A, 0 ≤ x ∧ x < (n : Int) := fun x hx => by
      have := hasB_mem.2 hx
      rw [hA, posB, List.any_eq_true] at this
      obtain ⟨e, he, h⟩ := this
      simp only [Bool.and_eq_true, beq_iff_eq] at h
      rw [← h.2]; exact hl e he
    constructor
    · intro hx
      have hr : 0 ≤ x ∧ x < (n : Int) := by
        rcases List.mem_append.1 hx with h | h
        · exact hin x (List.mem_filter.1 h).1
        · exact hmemA x (hp.mem_iff.1 (List.mem_filter.1 h).1)
      obtain ⟨f, rfl⟩ : ∃ f : Nat, x = (f : Int) := ⟨x.toNat, by omega⟩
      exact hasB_mem.1 ((key f (by omega)).1 hx)
    · intro hx
      have hr := after_in n s l x hx
      obtain ⟨f, rfl⟩ : ∃ f : Nat, x = (f : Int) := ⟨x.toNat, by omega⟩
      exact (key f (by omega)).2 (hasB_mem.2 hx)
theorem upd_kvN (x : Int) {l : List Int} (hn : l.Nodup) : ∃ m, updKV (.int .i64 x) (.v (.bool true)) (kvI l) = kvI m ∧ (∀ y, hasB m y = (hasB l y || x == y)) ∧ m.Nodup ∧ m.length ≤ l.length + 1 := by
  have key : ∀ l : List Int, updKV (.int .i64 x) (.v (.bool true)) (kvI l) = kvI (if hasB l x = true then l else l ++ [x]) := by
    intro l
    induction l with
    | nil => rfl
    | cons z r ih =>
      by_cases h : x = z
      · subst h
        simp only [kvI, List.map_cons, updKV]
        rw [if_pos (show sameK (.int .i64 x) (.int .i64 x) = true by simp [sameK]), if_pos (by simp [hasB])]
        rfl
      · simp only [kvI, List.map_cons, updKV] at ih ⊢
        rw [if_neg (show ¬ sameK (.int .i64 x) (.int .i64 z) = true by simpa [sameK] using h), ih]
        have h2 : (z == x) = false := by simpa using fun hh => h hh.symm
        have e : hasB (z :: r) x = hasB r x := by simp only [hasB, List.any_cons, h2, Bool.false_or]
        rw [e]
        split <;> rfl
  refine ⟨_, key l, fun y => ?_, ?_, ?_⟩
  · split
    · rename_i hx
      by_cases hxy : x = y
      · subst hxy; rw [hx]; simp
      · have : (x == y) = false := by simpa using hxy
        rw [this, Bool.or_false]
    · exact hasB_snoc l x y
  · split
    · exact hn
    · rename_i hx
      refine List.nodup_append.2 ⟨hn, by simp, fun a ha b hb hab => ?_⟩
      simp at hb; subst hb; subst hab
      exact hx (hasB_mem.2 ha)
  · split <;> simp
theorem accV_ne {σ sz : Nat} {es : List (List T)} (h : es ≠ []) : accV σ sz es = .osl (.cur σ) sz 0 es.length := by
  cases es with
  | nil => exact absurd rfl h
  | cons x r => rfl
theorem accO_ne {σ e sz : Nat} {es : List (List T)} (h : es ≠ []) : accO σ e sz es = [(σ, .row e sz es)] := by
  cases es with
  | nil => exact absurd rfl h
  | cons x r => rfl
theorem kvI_erase : ∀ (R : List Int) (i : Nat), (kvI R).eraseIdx i = kvI (R.eraseIdx i)
  | [], _ => rfl
  | _ :: _, 0 => rfl
  | _ :: r, i + 1 => congrArg (_ :: ·) (kvI_erase r i)
theorem kvI_get {R : List Int} {i : Nat} {p : Value × T} (h : (kvI R)[i]? = some p) : ∃ x, R[i]? = some x ∧ p = (.int .i64 x, .v (.bool true)) := by
  rw [kvI, List.getElem?_map] at h
  cases hx : R[i]? with
  | none => rw [hx] at h; cases h
  | some x => rw [hx] at h; cases h; exact ⟨x, rfl, rfl⟩
theorem posB_step {s : List Int} {l : List Eff} {i : Nat} (hi : i < l.length) (x : Int) : posB s (l.take (i + 1)) x = (posB s (l.take i) x || ((!l[i].lit.neg && holdsB s l[i].when_) && l[i].lit.fact == x)) := by
  rw [posB, List.take_add_one, List.getElem?_eq_getElem hi, Option.toList_some, List.any_append]; simp [posB]
theorem negB_step {s : List Int} {l : List Eff} {i : Nat} (hi : i < l.length) (x : Int) : negB s (l.take (i + 1)) x = (negB s (l.take i) x || ((l[i].lit.neg && holdsB s l[i].when_) && l[i].lit.fact == x)) := by
  rw [negB, List.take_add_one, List.getElem?_eq_getElem hi, Option.toList_some, List.any_append]; simp [negB]
theorem filter_step {l : List Int} {p : Int → Bool} {i : Nat} (hi : i < l.length) : (l.take (i + 1)).filter p = (l.take i).filter p ++ if p l[i] then [l[i]] else [] := by
  rw [List.take_add_one, List.getElem?_eq_getElem hi, Option.toList_some, List.filter_append]
  cases h : p l[i] <;> simp [h]
theorem filter_len {l : List Int} {p : Int → Bool} : (l.filter p).length ≤ l.length := List.length_filter_le ..
def gkp76 : Kp := [(3, ([0, 5, 6, 16, 17, 18], [104, 112])), (12, ([0, 5, 6, 9, 38, 39, 40], [104, 112, 448])), (18, ([0, 9, 59], [472, 448, 568]))]
theorem g76_spec (n1 : Bool) (s : List Int) (a : Actn) (n : Nat) (hs : risingB s n = true) (hn : n ≤ 1000000000) (hf : factsIn n a.effs) (he : a.effs.length ≤ 1000000) (out : List Fr) :
    SpecP Tryz.prog 66 [.ints n1 s, .act a] out fun r ro => r = .t (sT (afterL n s a.effs)) ∧ ro = [] := by
  refine SpecP.close (Post := fun r ro => ∃ σ, r = accV σ 1 ((afterL n s a.effs).map tI) ∧ ro = accO σ 3 1 ((afterL n s a.effs).map tI)) ?_ ?_
  rotate_left
  · rintro r ro ⟨σ, rfl, rfl⟩
    generalize afterL n s a.effs = L
    cases L with
    | nil => exact ⟨_, .same _, rfl, rfl⟩
    | cons x r =>
      refine ⟨_, .row σ 3 1 0 _ ((x :: r).map tI) (by show look [(σ, _)] σ = _; rw [look_cons, if_pos rfl]; rfl) (by simp), ?_, rfl⟩
      show LV.t (.sl false 1 ((((x :: r).map tI).drop 0).take ((x :: r).map tI).length)) = _
      rw [← take_all]; rfl
  refine spec_body cx_ok gkp76 [] (fn := Tryz.f66) (by kernel_rfl) rfl (by kernel_rfl) rfl (by unfold FnOK; kernel_rfl) fun hok => ?_
  have hsl := rising_len hs (by omega)
  refine LoopW.mk (Nat × List Int × List Int) (fun u => u.1 ≤ a.effs.length ∧ (∀ x, hasB u.2.1 x = posB s (a.effs.take u.1) x) ∧ (∀ x, hasB u.2.2 x = negB s (a.effs.take u.1) x) ∧ u.2.1.Nodup ∧ u.2.2.Nodup ∧ u.2.1.length ≤ u.1)
    (fun u => [(0, .ints n1 s), (5, .mpr (.cur 104)), (6, .mpr (.cur 112)), (16, .t (.sl a.en 3 (a.effs.map tEff))), (17, .int (a.effs.map tEff).length), (18, .int u.1)])
    (fun u => ⟨out, [(104, .mp (.int .i64) (kvI u.2.1)), (112, .mp (.int .i64) (kvI u.2.2))]⟩) (fun u => a.effs.length - u.1) (0, [], []) ⟨Nat.zero_le _, fun _ => rfl, fun _ => rfl, .nil, .nil, Nat.le_refl _⟩ ⟨rfl, rfl⟩ ?_
  rintro ⟨i, A, D⟩ ⟨hi0, hA, hD, hAn, hDn, hAl⟩
  simp only at hi0 hA hD hAn hDn hAl
  refine And.intro (fun h1 => ?_) fun h1 => ?_
  · have hi := lt_of_dec h1
    refine And.intro (by omega) (Exists.intro _ (And.intro (get_map hi) ?_))
    refine SpecP.mono (g56_spec n1 a.effs[i].nil s a.effs[i].when_ n hs (by omega) []) ?_
    rintro _ _ ⟨rfl, rfl⟩
    have fin : ∀ (A' D' : List Int), (∀ x, hasB A' x = (hasB A x || ((!a.effs[i].lit.neg && holdsB s a.effs[i].when_) && a.effs[i].lit.fact == x))) → (∀ x, hasB D' x = (hasB D x || ((a.effs[i].lit.neg && holdsB s a.effs[i].when_) && a.effs[i].lit.fact == x))) → A'.Nodup → D'.Nodup → A'.length ≤ i + 1 →
        (i + 1 ≤ a.effs.length ∧ (∀ x, hasB A' x = posB s (a.effs.take (i + 1)) x) ∧ (∀ x, hasB D' x = negB s (a.effs.take (i + 1)) x) ∧ A'.Nodup ∧ D'.Nodup ∧ A'.length ≤ i + 1) := fun A' D' h1 h2 h3 h4 h5 =>
      ⟨hi, fun x => by rw [h1, posB_step hi, hA], fun x => by rw [h2, negB_step hi, hD], h3, h4, h5⟩
    refine And.intro (fun h2 => ?_) fun h2 => ?_
    · refine And.intro (fun h3 => ?_) fun h3 => ?_
      · obtain ⟨m, g1, g2, g3, _⟩ := upd_kvN a.effs[i].lit.fact hDn
        refine And.intro (by omega) (And.intro (by omega) ?_)
        refine Exists.intro (i + 1, A, m) (And.intro (by show a.effs.length - (i + 1) < a.effs.length - i; omega) (And.intro (fin A m (fun x => by rw [h3]; simp) (fun x => by rw [g2, h2, h3]; simp) hAn g3 (by omega)) (And.intro rfl ?_)))
        show (⟨out, [(104, .mp (.int .i64) (kvI A)), (112, .mp (.int .i64) (updKV (.int .i64 a.effs[i].lit.fact) (.v (.bool true)) (kvI D)))]⟩ : St) = _
        rw [g1]
      · obtain ⟨m, g1, g2, g3, g4⟩ := upd_kvN a.effs[i].lit.fact hAn
        refine And.intro (by omega) (And.intro (by omega) ?_)
        refine Exists.intro (i + 1, m, D) (And.intro (by show a.effs.length - (i + 1) < a.effs.length - i; omega) (And.intro (fin m D (fun x => by rw [g2, h2, h3]; simp) (fun x => by rw [h3]; simp) g3 hDn (by omega)) (And.intro rfl ?_)))
        show (⟨out, [(104, .mp (.int .i64) (updKV (.int .i64 a.effs[i].lit.fact) (.v (.bool true)) (kvI A))), (112, .mp (.int .i64) (kvI D))]⟩ : St) = _
        rw [g1]
    · refine And.intro (by omega) (And.intro (by omega) ?_)
      exact Exists.intro (i + 1, A, D) (And.intro (by show a.effs.length - (i + 1) < a.effs.length - i; omega) (And.intro (fin A D (fun x => by rw [h2]; simp) (fun x => by rw [h2]; simp) hAn hDn (by omega)) (And.intro rfl rfl)))
  have hi : a.effs.length ≤ i := ge_of_dec h1
  rw [List.take_of_length_le hi] at hA hD
  have hAl : A.length ≤ 1000000 := by omega
  clear h1 hi hi0
  -- what stays
  refine LoopW.mk (Nat × List Int) (fun u => u.1 ≤ s.length ∧ u.2 = (s.take u.1).filter (fun x => !hasB D x || hasB A x)) (fun u => [(0, .ints n1 s), (5, .mpr (.cur 104)), (6, .mpr (.cur 112)), (9, accV 448 1 (u.2.map tI)), (38, .ints n1 s), (39, .int (s.map tI).length), (40, .int u.1)])
    (fun u => ⟨out, (104, .mp (.int .i64) (kvI A)) :: (112, .mp (.int .i64) (kvI D)) :: accO 448 3 1 (u.2.map tI)⟩) (fun u => s.length - u.1) (0, []) ⟨Nat.zero_le _, rfl⟩ ⟨rfl, rfl⟩ ?_
  rintro ⟨j, L⟩ ⟨hj0, hL⟩
  simp only at hj0 hL
  have hLl : L.length ≤ s.length := by rw [hL]; exact Nat.le_trans filter_len (by simp; omega)
  have hpl : ∀ {x : Int}, (!hasB D x || hasB A x) = false → hasB D x = true ∧ hasB A x = false := fun {x} h => by
    cases h1 : hasB D x <;> cases h2 : hasB A x <;> simp [h1, h2] at h ⊢
  rcases L with _ | ⟨y, r⟩
  all_goals
    refine And.intro (fun h1 => ?_) fun h1 => ?_
    · have hj := lt_of_dec h1
      have stp := filter_step (l := s) (p := fun x => !hasB D x || hasB A x) hj
      rw [← hL] at stp
      have hlen := hok.1.1
      refine And.intro (by omega) (Exists.intro _ (And.intro (get_map hj) ?_))
      refine Exists.intro _ (And.intro (look_kvI _ _) ?_)
      refine And.intro (fun h2 => ?_) fun h2 => ?_
      · refine Exists.intro _ (And.intro (look_kvI _ _) ?_)
        refine And.intro (fun h3 => ?_) fun h3 => ?_
        · have hp : (!hasB D s[j] || hasB A s[j]) = true := by rw [h2, h3]; rfl
          simp only [hp, if_true] at stp
          first
            | (refine And.intro (Nat.le_of_ble_eq_true rfl) (And.intro (Nat.le_of_ble_eq_true rfl) (And.intro (Nat.le_of_ble_eq_true rfl) ?_))
               refine And.intro (by omega) (And.intro (by omega) ?_)
               exact Exists.intro (j + 1, [s[j]]) (And.intro (by show s.length - (j + 1) < s.length - j; omega) (And.intro ⟨hj, stp.symm⟩ (And.intro rfl rfl))))
            | (have hl2 : ((tI y :: r.map tI) ++ [tI s[j]]).length ≤ s.length + 1 := by simp at hLl ⊢; omega
               refine And.intro (Nat.le_of_ble_eq_true rfl) (And.intro rfl (And.intro (by show ((tI y :: r.map tI) ++ [tI s[j]]).length * 8 ≤ _; omega) (And.intro (by show ((tI y :: r.map tI) ++ [tI s[j]]).length ≤ _; omega) ?_)))
               refine And.intro (by omega) (And.intro (by omega) ?_)
               have e : (r ++ [s[j]]).map tI = r.map tI ++ [tI s[j]] := by simp
               refine Exists.intro (j + 1, y :: (r ++ [s[j]])) (And.intro (by show s.length - (j + 1) < s.length - j; omega) (And.intro ⟨hj, stp.symm⟩ ?_))
               simp only [List.map_cons, e]
               exact And.intro rfl rfl)
        · have hp : (!hasB D s[j] || hasB A s[j]) = false := by rw [h2, h3]; rfl
          simp only [hp, Bool.false_eq_true, if_false, List.append_nil] at stp
          refine And.intro (by omega) (And.intro (by omega) ?_)
          exact Exists.intro (j + 1, _) (And.intro (by show s.length - (j + 1) < s.length - j; omega) (And.intro ⟨hj, stp.symm⟩ (And.intro rfl rfl)))
      · have hp : (!hasB D s[j] || hasB A s[j]) = true := by rw [h2]; rfl
        simp only [hp, if_true] at stp
        first
          | (refine And.intro (Nat.le_of_ble_eq_true rfl) (And.intro (Nat.le_of_ble_eq_true rfl) (And.intro (Nat.le_of_ble_eq_true rfl) ?_))
             refine And.intro (by omega) (And.intro (by omega) ?_)
             exact Exists.intro (j + 1, [s[j]]) (And.intro (by show s.length - (j + 1) < s.length - j; omega) (And.intro ⟨hj, stp.symm⟩ (And.intro rfl rfl))))
          | (have hl2 : ((tI y :: r.map tI) ++ [tI s[j]]).length ≤ s.length + 1 := by simp at hLl ⊢; omega
             refine And.intro (Nat.le_of_ble_eq_true rfl) (And.intro rfl (And.intro (by show ((tI y :: r.map tI) ++ [tI s[j]]).length * 8 ≤ _; omega) (And.intro (by show ((tI y :: r.map tI) ++ [tI s[j]]).length ≤ _; omega) ?_)))
             refine And.intro (by omega) (And.intro (by omega) ?_)
             have e : (r ++ [s[j]]).map tI = r.map tI ++ [tI s[j]] := by simp
             refine Exists.intro (j + 1, y :: (r ++ [s[j]])) (And.intro (by show s.length - (j + 1) < s.length - j; omega) (And.intro ⟨hj, stp.symm⟩ ?_))
             simp only [List.map_cons, e]
             exact And.intro rfl rfl)
    have hj : s.length ≤ j := ge_of_dec h1
    rw [List.take_of_length_le hj] at hL
    have hbig : ∀ {L1 Pd R : List Int}, L1.length ≤ s.length → (Pd ++ R).Perm A → (L1 ++ Pd.filter fun x => !hasB s x).length ≤ 1001000000 := fun {L1 Pd R} h1 h2 => by
      have h3 := h2.length_eq
      have h4 := filter_len (l := Pd) (p := fun x => !hasB s x)
      rw [List.length_append] at h3 ⊢; omega
    first
      | refine LoopW.mk ((Value × T) × List Int × List Int) (fun u => ∃ Pd, (Pd ++ u.2.1).Perm A ∧ u.2.2 = [] ++ Pd.filter fun x => !hasB s x) (fun u => [(0, .ints n1 s), (9, accV 568 1 (u.2.2.map tI)), (59, .ptr (.cur 472) 0)])
          (fun u => ⟨out, (472, .mit (.cur 104) (u.1 :: kvI u.2.1)) :: accO 568 3 1 (u.2.2.map tI)⟩) (fun u => u.2.1.length) ((.slice none 0 0, .v (.bool false)), A, []) ⟨[], List.Perm.refl _, rfl⟩ ⟨rfl, rfl⟩ ?_
      | refine LoopW.mk ((Value × T) × List Int × List Int) (fun u => ∃ Pd, (Pd ++ u.2.1).Perm A ∧ u.2.2 = (y :: r) ++ Pd.filter fun x => !hasB s x) (fun u => [(0, .ints n1 s), (9, accV 448 1 (u.2.2.map tI)), (59, .ptr (.cur 472) 0)])
          (fun u => ⟨out, (472, .mit (.cur 104) (u.1 :: kvI u.2.1)) :: accO 448 3 1 (u.2.2.map tI)⟩) (fun u => u.2.1.length) ((.slice none 0 0, .v (.bool false)), A, y :: r) ⟨[], List.Perm.refl _, by simp⟩ ⟨rfl, rfl⟩ ?_
    rintro ⟨c, R, L⟩ ⟨Pd, hP, hL3⟩
    simp only at hP hL3
    have hLl3 : L.length ≤ 1001000000 := by rw [hL3]; exact hbig hLl hP
    rcases L with _ | ⟨z, q⟩
    all_goals
      first
        | (exfalso; simp at hL3; done)
        | (refine And.intro (fun hz => ?_) fun i p hp => ?_
           · have hR : R = [] := by
               cases R with
               | nil => rfl
               | cons _ _ => cases hz
             rw [hR, List.append_nil] at hP
             have hS := after_sort (n := n) (l := a.effs) (A' := Pd) (D := D) hf hs hA hD hAn hP
             rw [← hL, ← hL3] at hS
             refine And.intro (fun h => Bool.noConfusion h) fun _ => ?_
             first
               | (have hS0 : afterL n s a.effs = [] := by rw [← hS]; exact List.mergeSort_nil ..
                  exact Exists.intro [568] ⟨568, by rw [hS0]; rfl, by rw [hS0]; rfl⟩)
               | (refine Exists.intro (z :: q) (And.intro rfl (And.intro (by simp) (And.intro (by omega) ?_)))
                  have hlm : ((z :: q).mergeSort fun x y => decide (x ≤ y)).length = (z :: q).length := List.length_mergeSort ..
                  have hne : (afterL n s a.effs).map tI ≠ [] := fun h => by
                    rw [← hS] at h
                    have := congrArg List.length h
                    rw [List.length_map, hlm] at this
                    simp at this
                  have hln : ((afterL n s a.effs).map tI).length = ((z :: q).map tI).length := by rw [← hS]; simp
                  first
                    | (refine Exists.intro [568] ⟨568, ?_, ?_⟩
                       · rw [accV_ne hne, hln]; rfl
                       · rw [accO_ne hne, ← hS]; rfl)
                    | (refine Exists.intro [448] ⟨448, ?_, ?_⟩
                       · rw [accV_ne hne, hln]; rfl
                       · rw [accO_ne hne, ← hS]; rfl))
           · obtain ⟨x, hx, rfl⟩ := kvI_get hp
             have hil : i < R.length := (List.getElem?_eq_some_iff.1 hx).1
             have hms : (R.eraseIdx i).length < R.length := by rw [List.length_eraseIdx_of_lt hil]; omega
             have hP' : ((Pd ++ [x]) ++ R.eraseIdx i).Perm A := by
               rw [List.append_assoc]
               exact ((perm_eraseIdx hx).symm.append_left Pd).trans hP
             refine And.intro (fun _ => ?_) fun h => Bool.noConfusion h
             refine SpecP.mono (g88_spec n1 s n x hs (by omega) []) ?_
             rintro _ _ ⟨rfl, rfl⟩
             refine And.intro (fun h3 => ?_) fun h3 => ?_
             · first
                 | (refine Exists.intro ((.int .i64 x, .v (.bool true)), R.eraseIdx i, []) (And.intro hms (And.intro ⟨Pd ++ [x], hP', ?_⟩ (And.intro rfl ?_)))
                    · show _ = _ ++ (Pd ++ [x]).filter fun x => !hasB s x
                      rw [show (Pd ++ [x]).filter (fun x => !hasB s x) = Pd.filter fun x => !hasB s x by rw [List.filter_append]; simp [h3]]; exact hL3
                    · simp only [← kvI_erase]; rfl)
                 | (refine Exists.intro ((.int .i64 x, .v (.bool true)), R.eraseIdx i, z :: q) (And.intro hms (And.intro ⟨Pd ++ [x], hP', ?_⟩ (And.intro rfl ?_)))
                    · show _ = _ ++ (Pd ++ [x]).filter fun x => !hasB s x
                      rw [show (Pd ++ [x]).filter (fun x => !hasB s x) = Pd.filter fun x => !hasB s x by rw [List.filter_append]; simp [h3]]; exact hL3
                    · simp only [← kvI_erase]; rfl)
             · have hfx : (Pd ++ [x]).filter (fun x => !hasB s x) = (Pd.filter fun x => !hasB s x) ++ [x] := by rw [List.filter_append]; simp [h3]
               first
                 | (refine And.intro (Nat.le_of_ble_eq_true rfl) (And.intro (Nat.le_of_ble_eq_true rfl) (And.intro (Nat.le_of_ble_eq_true rfl) ?_))
                    refine Exists.intro ((.int .i64 x, .v (.bool true)), R.eraseIdx i, [x]) (And.intro hms (And.intro ⟨Pd ++ [x], hP', ?_⟩ (And.intro rfl ?_)))
                    · show [x] = _ ++ (Pd ++ [x]).filter fun x => !hasB s x
                      rw [hfx, ← List.append_assoc, ← hL3]; rfl
                    · simp only [← kvI_erase]; rfl)
                 | (have hl2 : ((tI z :: q.map tI) ++ [tI x]).length ≤ 1001000001 := by simp at hLl3 ⊢; omega
                    refine And.intro (Nat.le_of_ble_eq_true rfl) (And.intro rfl (And.intro (by show ((tI z :: q.map tI) ++ [tI x]).length * 8 ≤ _; omega) (And.intro (by show ((tI z :: q.map tI) ++ [tI x]).length ≤ _; omega) ?_)))
                    have e : (q ++ [x]).map tI = q.map tI ++ [tI x] := by simp
                    refine Exists.intro ((.int .i64 x, .v (.bool true)), R.eraseIdx i, z :: (q ++ [x])) (And.intro hms (And.intro ⟨Pd ++ [x], hP', ?_⟩ ?_))
                    · show z :: (q ++ [x]) = _ ++ (Pd ++ [x]).filter fun x => !hasB s x
                      rw [hfx, ← List.append_assoc, ← hL3]; rfl
                    · simp only [List.map_cons, e, ← kvI_erase]
                      exact And.intro rfl rfl))
theorem g96_spec (n1 : Bool) (s : List Int) (hl : s.length ≤ 1000000000) (out : List Fr) : SpecP Tryz.prog 50 [.ints n1 s] out fun r ro => r = .ints n1 s ∧ ro = [] := by
  refine SpecP.nil_arg (i := 0) rfl (by unfold FnOK; kernel_rfl) fun hnil => ?_
  refine SpecP.close (Post := fun r ro => (n1 = true ∧ r = .t (.sl true 0 []) ∧ ro = []) ∨ (n1 = false ∧ r = .osl (.cur 40) 1 0 (s.map tI).length ∧ ro = [(40, .row 3 1 (s.map tI))])) ?_ ?_
  rotate_left
  · rintro r ro (⟨rfl, rfl, rfl⟩ | ⟨rfl, rfl, rfl⟩)
    · rw [hnil rfl]; exact ⟨_, .nil 0 1, rfl, rfl⟩
    · refine ⟨_, .row 40 3 1 0 _ (s.map tI) (by rw [look_cons, if_pos rfl]) (by simp), ?_, rfl⟩
      rw [← take_all]
  refine spec_body cx_ok [] [] (fn := Tryz.f50) (by kernel_rfl) rfl (by kernel_rfl) rfl (by unfold FnOK; kernel_rfl) fun hok => ?_
  have hsl : (s.map tI).length = s.length := List.length_map ..
  refine And.intro (fun h => ?_) fun h => ?_
  · exact Exists.intro [] (.inl ⟨h, rfl, rfl⟩)
  refine And.intro rfl (And.intro (by show (s.map tI).length * 8 ≤ _; omega) (And.intro (by show (s.map tI).length ≤ _; omega) ?_))
  exact Exists.intro [40] (.inr ⟨h, rfl, rfl⟩)
def gkp104 : Kp := [(2, ([0, 1, 7, 8], []))]
theorem rising_of {l : List Int} {n : Int} (h : l.Pairwise (· < ·)) (h2 : ∀ x ∈ l, 0 ≤ x ∧ x < n) : risingB l n = true := by
  rw [risingB, List.all_eq_true]
  intro i hi
  have hi : i < l.length := List.mem_range.1 hi
  have h3 := h2 _ (List.getElem_mem hi)
  simp only [chkI, at0_eq hi, Bool.and_eq_true, Bool.or_eq_true, decide_eq_true_eq, beq_iff_eq]
  refine ⟨h3, ?_⟩
  cases i with
  | zero => exact .inl rfl
  | succ i => right; rw [Nat.add_sub_cancel, at0_eq (show i < l.length by omega)]; exact List.pairwise_iff_getElem.1 h i (i + 1) (by omega) hi (by omega)
theorem after_rising (n : Nat) (s : List Int) (l : List Eff) : risingB (afterL n s l) n = true := rising_of (listL_inc _) (after_in n s l)
theorem st_rising {t : Task} {s p : List Int} (hs : risingB s t.facts.length = true) : ∀ i, risingB (stAt t s p i) t.facts.length = true
  | 0 => hs
  | _ + 1 => after_rising ..
/-- Is the state after i actions nil? -/
def stN (n1 : Bool) (t : Task) (s p : List Int) : Nat → Bool
  | 0 => n1
  | i + 1 => (stAt t s p (i + 1)).isEmpty
def tIs (b : Bool) (s : List Int) : T := .sl b 1 (s.map tI)
def stTs (n1 : Bool) (t : Task) (s p : List Int) (k : Nat) : List (List T) := (List.range (k + 1)).map fun j => [tIs (stN n1 t s p j) (stAt t s p j)]
theorem stTs_len (n1 : Bool) (t : Task) (s p : List Int) (k : Nat) : (stTs n1 t s p k).length = k + 1 := by simp [stTs]
theorem stTs_step (n1 : Bool) (t : Task) (s p : List Int) (k : Nat) : stTs n1 t s p (k + 1) = stTs n1 t s p k ++ [[tIs (stN n1 t s p (k + 1)) (stAt t s p (k + 1))]] := by
  rw [stTs, List.range_succ, List.map_append]; rfl
theorem stTs_get {n1 : Bool} {t : Task} {s p : List Int} {k j : Nat} (h : j ≤ k) : (stTs n1 t s p k)[j]? = some [tIs (stN n1 t s p j) (stAt t s p j)] := by
  rw [stTs, List.getElem?_map, List.getElem?_range (by omega)]; rfl
theorem g76i_spec (n1 : Bool) (s : List Int) (a : Actn) (n : Nat) (hs : risingB s n = true) (hn : n ≤ 1000000000) (hf : factsIn n a.effs) (he : a.effs.length ≤ 1000000) (out : List Fr) :
    SpecP Tryz.prog 66 [.ints n1 s, .act a] out fun r ro => r = .ints (afterL n s a.effs).isEmpty (afterL n s a.effs) ∧ ro = [] :=
  (g76_spec n1 s a n hs hn hf he out).close fun r ro h => by
    obtain ⟨rfl, rfl⟩ := h
    generalize afterL n s a.effs = L
    cases L with
    | nil => exact ⟨_, .nil 0 1, rfl, rfl⟩
    | cons x r => exact ⟨_, .same _, rfl, rfl⟩
theorem g97_spec (t : Task) (n1 n2 : Bool) (s p : List Int) (out : List Fr) : SpecP Tryz.prog 51 [.task t, .ints n1 s, .ints n2 p] out fun r ro =>
    r = .fn 65 [(.cur 40, 0), (.cur 32, 0), (.cur 24, 0)] ∧ ro = [(24, .box (cellsTask t)), (32, .box [.ints n1 s]), (40, .box [.ints n2 p])] := by
  refine spec_body cx_ok [] [] (fn := Tryz.f51) (by kernel_rfl) rfl (by kernel_rfl) rfl (by unfold FnOK; kernel_rfl) fun hok => ?_
  exact Exists.intro [24, 32, 40] ⟨rfl, rfl⟩
def nilV : LV := .t (.sl true 0 [])
theorem fine_no {t : Task} {s : List Int} (h : (!(fineI t s == 0)) = true) : fineI t s ≠ 0 := by simpa using h
theorem fine_yes {t : Task} {s : List Int} (h : (!(fineI t s == 0)) = false) : fineI t s = 0 := by simpa using h
theorem hts_of' {t : Task} {s : List Int} (h : fineI t s = 0) : isB t = true ∧ risingB s t.facts.length = true := hts_of h
/-- How far a list of actions comes. -/
structure Ran (t : Task) (s p : List Int) (k : Nat) (at_ : Int) : Prop where
  le : k ≤ p.length
  ok : ∀ i, i < k → okAt t s p i = true
  stop : (k = p.length ∧ at_ = -1) ∨ (k < p.length ∧ okAt t s p k = false ∧ at_ = (k : Int))
def god105 : Od := [(3, [(0, .pure), (1, .pure), (2, .pure), (3, .pure), (4, .pure), (5, .pure), (6, .pure), (7, .eff), (8, .pure)]), (4, [(0, .pure), (1, .pure), (2, .pure), (3, .pure), (4, .pure), (5, .pure), (6, .eff), (7, .syn)])]
def gkp105 : Kp := [(1, ([0, 2, 3, 7, 8, 9, 1000003, 1000005, 1000006, 1000008, 1000009], [24, 40, 48, 64, 72, 112, 153000483, 153000491]))]
def god79 : Od := [(6, [(0, .pure), (1, .pure), (2, .pure), (3, .eff), (4, .eff), (5, .syn), (6, .pure), (7, .syn)]), (7, [(0, .pure), (1, .pure), (2, .pure), (3, .pure), (4, .pure), (5, .pure), (6, .pure), (7, .pure), (8, .pure), (9, .pure), (10, .pure), (11, .pure), (12, .pure), (13, .syn)]), (9, [(0, .pure), (1, .pure), (2, .pure), (3, .pure), (4, .pure), (5, .pure), (6, .pure), (7, .pure), (8, .pure), (9, .pure), (10, .eff), (11, .pure), (12, .syn)]), (12, [(0, .tree (.pure 0 (.pure 1 (.last 2 (.pure 3 .done) [1]))))])]
def gkp79 : Kp := []
theorem g79o_spec (t : Task) (n1 n2 : Bool) (s p : List Int) (TK : TaskOK t) (hs : risingB s t.facts.length = true) (hp : planB t p = true) (out : List Fr) :
    SpecP Tryz.prog 31 [.task t, .ints n1 s, .ints n2 p] out fun r ro => ∃ (k : Nat) (at_ : Int), Ran t s p k at_ ∧
      r = .tup [.agg [.osl (.cur 112) 1 0 (stTs n1 t s p k).length, .int (costAt t p k), .bool (holdsB (stAt t s p k) t.goal)], .int at_] ∧ ro = [(112, .row 23 1 (stTs n1 t s p k))] := by
  refine spec_range cx_ok gkp79 god79 gkp105 god105 (fn := Tryz.f31) (by kernel_rfl) rfl (by kernel_rfl) rfl (by unfold FnOK; kernel_rfl) fun hok => ?_
  have hin := rising_in hs
  have hN := TK.facts
  have hsl := rising_len hs (by omega)
  have hpl : p.length ≤ 10000 := by simp only [planB, Bool.and_eq_true, decide_eq_true_eq] at hp; exact hp.1
  refine SpecP.mono (g96_spec n1 s hsl []) ?_
  rintro _ _ ⟨rfl, rfl⟩
  refine SpecP.mono (g97_spec t n1 n2 s p []) ?_
  rintro _ _ ⟨rfl, rfl⟩
  refine ⟨Tryz.f65, _, rfl, rfl, rfl, by unfold FnOK; kernel_rfl, by kernel_rfl, fun l => ?_⟩
  refine LoopW.mk Nat (fun i => i ≤ p.length ∧ ∀ j, j < i → okAt t s p j = true)
    (fun i => [(0, .t (.v (.func (.yield l) #[] #[]))), (2, .ptr (.cur 153000491) 0), (3, .ptr (.cur 153000483) 0), (7, .ints n2 p), (8, .int (p.map tI).length), (9, .int i),
      (1000003, .ptr (.cur 24) 0), (1000005, .ptr (.cur 40) 0), (1000006, .ptr (.cur 48) 0), (1000008, .ptr (.cur 64) 0), (1000009, .ptr (.cur 72) 0)])
    (fun i => ⟨out, [(24, .box (cellsTask t)), (40, .box [.ints n2 p]), (48, .box [.t (.sl true 0 []), .int 0, .bool false]), (64, .box [.osl (.cur 112) 1 0 (stTs n1 t s p i).length, .int (costAt t p i), .bool false]), (72, .box [.int i]),
      (112, .row 23 1 (stTs n1 t s p i)), (153000483, .box (cellsTask t)), (153000491, .box [.ints (stN n1 t s p i) (stAt t s p i)])]⟩) (fun i => p.length - i) 0 ⟨Nat.zero_le _, fun j hj => by omega⟩ ⟨rfl, rfl⟩ fun i hI => ?_
  have hsi := st_rising (t := t) (p := p) hs i
  have hsil := rising_len hsi (by omega)
  have hlen := stTs_len n1 t s p i
  refine And.intro (fun h1 => ?_) fun h1 => ?_
  · have hi := lt_of_dec h1
    obtain ⟨k, hk1, hk2, hk3, _⟩ := plan_get hp hi
    have hci := costAt_in TK hp i hI.1
    have hc := TK.cost _ (List.getElem_mem hk2)
    have hmem : t.acts[k] ∈ t.acts := List.getElem_mem hk2
    have hE := TK.effs _ hmem
    have hokk : okAt t s p i = holdsB (stAt t s p i) t.acts[k].pre := by rw [okAt, hk3]
    refine And.intro (by omega) (Exists.intro (tI k) (And.intro (by rw [← hk1]; exact get_map hi) ?_))
    refine And.intro (by omega) (Exists.intro _ (And.intro (get_map hk2) ?_))
    refine SpecP.mono (g56_spec (stN n1 t s p i) t.acts[k].pn (stAt t s p i) t.acts[k].pre t.facts.length hsi (by omega) []) ?_
    rintro _ _ ⟨rfl, rfl⟩
    refine And.intro ⟨rfl, rfl, rfl⟩ ?_
    refine And.intro (fun h2 => ?_) fun h2 => ?_
    · refine And.intro (by omega) (Exists.intro _ (And.intro (get_map hk2) ?_))
      refine SpecP.mono (g76i_spec (stN n1 t s p i) (stAt t s p i) t.acts[k] t.facts.length hsi (by omega) (TK.lit _ hmem) (by omega) []) ?_
      rintro _ _ ⟨rfl, rfl⟩
      refine And.intro ⟨rfl, rfl, rfl⟩ ?_
      refine ⟨rfl, rfl, ?_⟩
      have hst : stAt t s p (i + 1) = afterL t.facts.length (stAt t s p i) t.acts[k].effs := by rw [stAt, hk3]
      rw [← hst]
      have hsj := st_rising (t := t) (p := p) hs (i + 1)
      have hsjl := rising_len hsj (by omega)
      refine SpecP.mono (g96_spec (stAt t s p (i + 1)).isEmpty (stAt t s p (i + 1)) hsjl []) ?_
      rintro _ _ ⟨rfl, rfl⟩
      refine And.intro ⟨rfl, rfl, rfl⟩ ?_
      have hrow : stTs n1 t s p i ++ [[tIs (stAt t s p (i + 1)).isEmpty (stAt t s p (i + 1))]] = stTs n1 t s p (i + 1) := by rw [stTs_step]; rfl
      have hl2 : (stTs n1 t s p i ++ [[tIs (stAt t s p (i + 1)).isEmpty (stAt t s p (i + 1))]]).length = i + 2 := by rw [hrow, stTs_len]
      refine And.intro (Nat.le_of_ble_eq_true rfl) (And.intro rfl (And.intro (by show (stTs n1 t s p i ++ [[tIs (stAt t s p (i + 1)).isEmpty (stAt t s p (i + 1))]]).length * 24 ≤ _; omega) (And.intro (by show (stTs n1 t s p i ++ [[tIs (stAt t s p (i + 1)).isEmpty (stAt t s p (i + 1))]]).length ≤ _; omega) ?_)))
      refine And.intro (by omega) (Exists.intro (tI k) (And.intro (by rw [← hk1]; exact get_map hi) ?_))
      refine And.intro (by omega) (Exists.intro _ (And.intro (get_map hk2) ?_))
      refine And.intro (by omega) (And.intro (by omega) ?_)
      refine And.intro (by omega) (And.intro (by omega) ?_)
      refine And.intro (fun _ => ?_) fun h => Bool.noConfusion h
      refine And.intro (by omega) (And.intro (by omega) ?_)
      refine Exists.intro (i + 1) (And.intro (by show p.length - (i + 1) < p.length - i; omega) (And.intro ⟨hi, fun j hj => ?_⟩ ?_))
      · rcases Nat.lt_or_ge j i with h | h
        · exact hI.2 j h
        · rw [show j = i by omega, hokk, h2]
      · have hcost : costAt t p (i + 1) = costAt t p i + t.acts[k].cost := by rw [costAt, hk3]
        simp only [hcost, ← hrow]
        exact And.intro rfl rfl
    refine And.intro (by omega) (And.intro (by omega) ?_)
    refine And.intro (by omega) (And.intro (by omega) (Exists.intro [tIs (stN n1 t s p i) (stAt t s p i)] (And.intro (by rw [show 0 + (((stTs n1 t s p i).length : Int) - 1).toNat = i by omega]; exact stTs_get (Nat.le_refl i)) ?_)))
    refine SpecP.mono (g56_spec (stN n1 t s p i) t.gn (stAt t s p i) t.goal t.facts.length hsi (by omega) []) ?_
    rintro _ _ ⟨rfl, rfl⟩
    refine And.intro ⟨rfl, rfl, rfl⟩ ?_
    refine And.intro (fun h3 => ?_) fun h3 => ?_
    all_goals
      refine And.intro (fun h4 => ?_) fun h4 => ?_
      · have h4 := of_decide_eq_true h4
        rw [List.length_map] at h4
        omega
      · refine And.intro rfl ?_
        exact Exists.intro [112] ⟨i, (i : Int), ⟨hI.1, hI.2, .inr ⟨hi, by rw [hokk, h2], rfl⟩⟩, by rw [h3]; rfl, rfl⟩
  · have hi : i = p.length := by have := hI.1; have := ge_of_dec h1; omega
    refine And.intro (by omega) (And.intro (by omega) ?_)
    refine And.intro (by omega) (And.intro (by omega) (Exists.intro [tIs (stN n1 t s p i) (stAt t s p i)] (And.intro (by rw [show 0 + (((stTs n1 t s p i).length : Int) - 1).toNat = i by omega]; exact stTs_get (Nat.le_refl i)) ?_)))
    refine SpecP.mono (g56_spec (stN n1 t s p i) t.gn (stAt t s p i) t.goal t.facts.length hsi (by omega) []) ?_
    rintro _ _ ⟨rfl, rfl⟩
    refine And.intro ⟨rfl, rfl, rfl⟩ ?_
    refine And.intro (fun h3 => ?_) fun h3 => ?_
    all_goals
      refine And.intro (fun h4 => ?_) fun h4 => ?_
      · refine And.intro rfl ?_
        exact Exists.intro [112] ⟨i, -1, ⟨hI.1, hI.2, .inl ⟨hi, rfl⟩⟩, by rw [h3]; rfl, rfl⟩
      · have h4 := of_decide_eq_false h4
        rw [List.length_map] at h4
        omega
def runV (n1 : Bool) (t : Task) (s p : List Int) (k : Nat) : LV := .agg [.t (.sl false 1 (stTs n1 t s p k)), .int (costAt t p k), .bool (holdsB (stAt t s p k) t.goal)]
theorem g79_spec (t : Task) (n1 n2 : Bool) (s p : List Int) (TK : TaskOK t) (hs : risingB s t.facts.length = true) (hp : planB t p = true) (out : List Fr) :
    SpecP Tryz.prog 31 [.task t, .ints n1 s, .ints n2 p] out fun r ro => ∃ (k : Nat) (at_ : Int), Ran t s p k at_ ∧ r = .tup [runV n1 t s p k, .int at_] ∧ ro = [] :=
  (g79o_spec t n1 n2 s p TK hs hp out).close fun r ro h => by
    obtain ⟨k, at_, hr, rfl, rfl⟩ := h
    refine ⟨_, .pair _ _ _ _ (.agg _ [.t (.sl false 1 (stTs n1 t s p k)), .int (costAt t p k), .bool (holdsB (stAt t s p k) t.goal)] rfl fun i x y hx hy => ?_) (.same _), k, at_, hr, rfl, rfl⟩
    match i with
    | 0 =>
      simp at hx hy; subst hx hy
      have h := ClsV.row (ro := [(112, Ob.row 23 1 (stTs n1 t s p k))]) 112 23 1 0 (stTs n1 t s p k).length (stTs n1 t s p k) rfl (by simp)
      rwa [← take_all] at h
    | 1 => simp at hx hy; subst hx hy; exact .same _
    | 2 => simp at hx hy; subst hx hy; exact .same _
    | i + 3 => simp at hx
theorem ran_eq {t : Task} {s p : List Int} {k k' : Nat} {a a' : Int} (h : Ran t s p k a) (h' : Ran t s p k' a') : k = k' ∧ a = a' := by
  have key : ∀ {k k' : Nat} {a a' : Int}, Ran t s p k a → Ran t s p k' a' → k ≤ k' := fun {k k' a a'} h h' => by
    rcases Nat.lt_or_ge k' k with hlt | hge
    · have h1 := h.ok k' hlt
      rcases h'.stop with ⟨h2, _⟩ | ⟨_, h2, _⟩
      · have := h.le; omega
      · rw [h1] at h2; cases h2
    · exact hge
  have hk : k = k' := Nat.le_antisymm (key h h') (key h' h)
  refine ⟨hk, ?_⟩
  rcases h.stop with ⟨h1, h2⟩ | ⟨h1, _, h2⟩ <;> rcases h'.stop with ⟨h3, h4⟩ | ⟨h3, _, h4⟩ <;> omega
inductive Executed (n1 : Bool) (t : Task) (s p : List Int) : LV → Prop
  | fault (h : fineI t s ≠ 0) : Executed n1 t s p (.tup [.agg [nilV, .int 0, .bool false], .int 0, .int (fineI t s)])
  | arg (h : fineI t s = 0) (h2 : planB t p = false) : Executed n1 t s p (.tup [.agg [nilV, .int 0, .bool false], .int 0, .int 1])
  | ran (h : fineI t s = 0) (h2 : planB t p = true) (k : Nat) (at_ : Int) (hr : Ran t s p k at_) : Executed n1 t s p (.tup [runV n1 t s p k, .int at_, .int 0])
theorem g42_spec (t : Task) (n1 n2 : Bool) (s p : List Int) (out : List Fr) : SpecP Tryz.prog 12 [.task t, .ints n1 s, .ints n2 p] out fun r ro => Executed n1 t s p r ∧ ro = [] := by
  refine spec_body cx_ok [] [] (fn := Tryz.f12) (by kernel_rfl) rfl (by kernel_rfl) rfl (by unfold FnOK; kernel_rfl) fun hok => ?_
  refine SpecP.mono (f46_spec t n1 s []) ?_
  rintro _ _ ⟨rfl, rfl⟩
  refine And.intro (fun h => ?_) fun h => ?_
  · exact Exists.intro [] ⟨.fault (fine_no h), rfl⟩
  have h0 := fine_yes h
  obtain ⟨ht, hs⟩ := hts_of h0
  have TK := task_ok ht
  refine SpecP.mono (f37_spec t n2 p []) ?_
  rintro _ _ ⟨rfl, rfl⟩
  refine And.intro (fun hp => ?_) fun hp => ?_
  rotate_left
  · exact Exists.intro [] ⟨.arg h0 hp, rfl⟩
  refine SpecP.mono (g79_spec t n1 n2 s p TK hs hp []) ?_
  rintro _ _ ⟨k, at_, hr, rfl, rfl⟩
  exact Exists.intro [] ⟨.ran h0 hp k at_ hr, rfl⟩

end Go.Fw

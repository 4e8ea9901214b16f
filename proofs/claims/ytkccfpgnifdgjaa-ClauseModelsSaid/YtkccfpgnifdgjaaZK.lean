/- Texts that lead to the law, part 11. -/
import Derived.Test.YtkccfpgnifdgjaaZJ
import Derived.Test.YtkccfpgnifdgjaaZG

/- What the program's functions do, part 35: lists of actions; the state after an action. -/
namespace Go.Fw
open Go Go.Proofs
set_option maxRecDepth 10000

def planB (t : Task) (p : List Int) : Bool := decide (p.length ≤ 10000) && p.all fun x => decide (0 ≤ x) && decide (x < t.acts.length)
def kp45 : Kp := [(4, ([2, 10, 11, 12], [16]))]
def negStep (s : List Int) (b : List Bool) (e : Eff) : List Bool := if (e.lit.neg && holdsB s e.when_) = true then b.set e.lit.fact.toNat false else b
def posStep (s : List Int) (b : List Bool) (e : Eff) : List Bool := if (!e.lit.neg && holdsB s e.when_) = true then b.set e.lit.fact.toNat true else b
def negAll (n : Nat) (s : List Int) (l : List Eff) : List Bool := l.foldl (negStep s) (bitsL n s)
def afterBits (n : Nat) (s : List Int) (l : List Eff) : List Bool := l.foldl (posStep s) (negAll n s l)
def afterL (n : Nat) (s : List Int) (l : List Eff) : List Int := listL (afterBits n s l)

theorem foldl_len {f : List Bool → Eff → List Bool} (h : ∀ b e, (f b e).length = b.length) : ∀ (l : List Eff) (b : List Bool), (l.foldl f b).length = b.length
  | [], _ => rfl
  | e :: r, b => by rw [List.foldl_cons, foldl_len h r, h]
theorem neg_len (s : List Int) (b : List Bool) (e : Eff) : (negStep s b e).length = b.length := by unfold negStep; split <;> simp
theorem pos_len (s : List Int) (b : List Bool) (e : Eff) : (posStep s b e).length = b.length := by unfold posStep; split <;> simp
theorem foldl_take {f : List Bool → Eff → List Bool} {l : List Eff} {b : List Bool} {i : Nat} (hi : i < l.length) : (l.take (i + 1)).foldl f b = f ((l.take i).foldl f b) l[i] := by
  rw [List.take_add_one, List.getElem?_eq_getElem hi, Option.toList_some, List.foldl_append]; rfl

def sSz : List Int → Nat
  | [] => 0
  | _ :: _ => 1
def sT (s : List Int) : T := .sl s.isEmpty (sSz s) (s.map tI)
theorem sT_vl {s : List Int} {β : K → Nat} {RO : Nat → Prop} {w : World} {v : Value} (h : VL β RO w (.t (sT s)) v) : VL β RO w (.ints s.isEmpty s) v := by
  cases s with
  | nil => exact nil_sz β RO w v h
  | cons x r => exact h

theorem el_at {b : List Bool} {n : Nat} (h : n < b.length) : ∃ y, (b.map tB)[0 + n]? = some (tB y) :=
  ⟨b[n], by rw [Nat.zero_add, List.getElem?_map, List.getElem?_eq_getElem h]; rfl⟩
def kp56 : Kp := [(3, ([1, 2, 3, 7, 22, 23, 24], [24, 129000459])), (9, ([1, 7, 48, 49, 50], [129000459]))]
theorem f56_spec (t : Task) (n1 : Bool) (s : List Int) (k : Nat) (TK : TaskOK t) (hs : ∀ x ∈ s, 0 ≤ x ∧ x < (t.facts.length : Int)) (hk : k < t.acts.length) (out : List Fr) :
    SpecP Try.prog 56 [.task t, .ints n1 s, .int k] out fun r ro => r = .t (sT (afterL t.facts.length s t.acts[k].effs)) ∧ ro = [] := by
  refine SpecP.close (Post := fun r ro => r = accV 569001843 1 ((afterL t.facts.length s t.acts[k].effs).map tI) ∧ ro = accO 569001843 3 1 ((afterL t.facts.length s t.acts[k].effs).map tI)) ?_ ?_
  rotate_left
  · rintro r ro ⟨rfl, rfl⟩
    generalize afterL t.facts.length s t.acts[k].effs = L
    cases L with
    | nil => exact ⟨_, .same _, rfl, rfl⟩
    | cons x r =>
      refine ⟨_, .row 569001843 3 1 0 _ ((x :: r).map tI) rfl (by simp), ?_, rfl⟩
      show LV.t (.sl false 1 ((((x :: r).map tI).drop 0).take ((x :: r).map tI).length)) = _
      rw [← take_all]; rfl
  refine spec_body cx_ok kp56 [] (fn := Try.f56) (by kernel_rfl) rfl (by kernel_rfl) rfl (by unfold FnOK; kernel_rfl) fun hok => ?_
  have hfl : (t.facts.map tS).length = t.facts.length := List.length_map ..
  have hN := TK.facts
  have hmem : t.acts[k] ∈ t.acts := List.getElem_mem hk
  have hE := TK.effs _ hmem
  refine SpecP.mono (f55_spec (t.facts.map tS).length n1 s (by omega) (by rw [hfl]; exact hs) []) ?_
  rintro _ _ ⟨rfl, rfl⟩
  refine And.intro (by omega) (Exists.intro _ (And.intro (get_map hk) ?_))
  have nl : ∀ i, ((t.acts[k].effs.take i).foldl (negStep s) (bitsL (t.facts.map tS).length s)).length = t.facts.length := fun i => by rw [foldl_len (neg_len s), bitsL_length, hfl]
  refine LoopW.mk Nat (fun i => i ≤ t.acts[k].effs.length) (fun i => [(1, .ints n1 s), (2, .int k), (3, .ptr (.cur 24) 0), (7, .osl (.cur 129000459) 1 0 (t.facts.map tS).length), (22, .t (.sl t.acts[k].en 3 (t.acts[k].effs.map tEff))), (23, .int (t.acts[k].effs.map tEff).length), (24, .int i)])
    (fun i => ⟨out, [(24, .box (cellsTask t)), (129000459, .row 4 1 (((t.acts[k].effs.take i).foldl (negStep s) (bitsL (t.facts.map tS).length s)).map tB))]⟩) (fun i => t.acts[k].effs.length - i) 0 (Nat.zero_le _) ⟨rfl, rfl⟩ fun i hI => ?_
  refine And.intro (fun h1 => ?_) fun h1 => ?_
  · have hi := lt_of_dec h1
    have hin := TK.lit _ hmem _ (List.getElem_mem hi)
    have hnl := nl i
    have hft : t.acts[k].effs[i].lit.fact.toNat < ((t.acts[k].effs.take i).foldl (negStep s) (bitsL (t.facts.map tS).length s)).length := by rw [hnl]; have := hin.1; have := hin.2; omega
    have stay : (t.acts[k].effs[i].lit.neg && holdsB s t.acts[k].effs[i].when_) = false → (t.acts[k].effs.take (i + 1)).foldl (negStep s) (bitsL (t.facts.map tS).length s) = (t.acts[k].effs.take i).foldl (negStep s) (bitsL (t.facts.map tS).length s) := fun h => by rw [foldl_take hi, negStep, h]; rfl
    refine And.intro (by omega) (Exists.intro _ (And.intro (get_map hi) ?_))
    refine And.intro (fun h2 => ?_) fun h2 => ?_
    · refine SpecP.mono (f53_spec n1 t.acts[k].effs[i].nil s t.acts[k].effs[i].when_ []) ?_
      rintro _ _ ⟨rfl, rfl⟩
      refine And.intro (fun h3 => ?_) fun h3 => ?_
      · obtain ⟨y, hy⟩ := el_at hft
        refine And.intro hin.1 (And.intro (by rw [hfl]; exact hin.2) (Exists.intro (tB y) (And.intro hy (And.intro (Nat.le_refl 1) ?_))))
        refine And.intro (by omega) (And.intro (by omega) ?_)
        refine Exists.intro (i + 1) (And.intro (by show t.acts[k].effs.length - (i + 1) < t.acts[k].effs.length - i; omega) (And.intro hi (And.intro rfl ?_)))
        show (⟨out, [(24, .box (cellsTask t)), (129000459, .row 4 1 ((((t.acts[k].effs.take i).foldl (negStep s) (bitsL (t.facts.map tS).length s)).map tB).set (0 + t.acts[k].effs[i].lit.fact.toNat) (tB false)))]⟩ : St) = _
        rw [Nat.zero_add, map_set', foldl_take hi, negStep, h2, h3]; rfl
      · refine And.intro (by omega) (And.intro (by omega) ?_)
        refine Exists.intro (i + 1) (And.intro (by show t.acts[k].effs.length - (i + 1) < t.acts[k].effs.length - i; omega) (And.intro hi (And.intro rfl ?_)))
        simp only [stay (by rw [h3, Bool.and_false])]
    · refine And.intro (by omega) (And.intro (by omega) ?_)
      refine Exists.intro (i + 1) (And.intro (by show t.acts[k].effs.length - (i + 1) < t.acts[k].effs.length - i; omega) (And.intro hi (And.intro rfl ?_)))
      simp only [stay (by rw [h2, Bool.false_and])]
  have hi : t.acts[k].effs.length ≤ i := ge_of_dec h1
  rw [List.take_of_length_le hi]
  refine And.intro (by omega) (Exists.intro _ (And.intro (get_map hk) ?_))
  have hneg : t.acts[k].effs.foldl (negStep s) (bitsL (t.facts.map tS).length s) = negAll t.facts.length s t.acts[k].effs := by rw [hfl]; rfl
  rw [hneg]
  have pl : ∀ i, ((t.acts[k].effs.take i).foldl (posStep s) (negAll t.facts.length s t.acts[k].effs)).length = t.facts.length := fun i => by rw [foldl_len (pos_len s), negAll, foldl_len (neg_len s), bitsL_length]
  clear h1 hi
  refine LoopW.mk Nat (fun i => i ≤ t.acts[k].effs.length) (fun i => [(1, .ints n1 s), (7, .osl (.cur 129000459) 1 0 (t.facts.map tS).length), (48, .t (.sl t.acts[k].en 3 (t.acts[k].effs.map tEff))), (49, .int (t.acts[k].effs.map tEff).length), (50, .int i)])
    (fun i => ⟨out, [(129000459, .row 4 1 (((t.acts[k].effs.take i).foldl (posStep s) (negAll t.facts.length s t.acts[k].effs)).map tB))]⟩) (fun i => t.acts[k].effs.length - i) 0 (Nat.zero_le _) ⟨rfl, rfl⟩ fun i hI => ?_
  refine And.intro (fun h1 => ?_) fun h1 => ?_
  · have hi := lt_of_dec h1
    have hin := TK.lit _ hmem _ (List.getElem_mem hi)
    have hnl := pl i
    have hft : t.acts[k].effs[i].lit.fact.toNat < ((t.acts[k].effs.take i).foldl (posStep s) (negAll t.facts.length s t.acts[k].effs)).length := by rw [hnl]; have := hin.1; have := hin.2; omega
    have stay : (!t.acts[k].effs[i].lit.neg && holdsB s t.acts[k].effs[i].when_) = false → (t.acts[k].effs.take (i + 1)).foldl (posStep s) (negAll t.facts.length s t.acts[k].effs) = (t.acts[k].effs.take i).foldl (posStep s) (negAll t.facts.length s t.acts[k].effs) := fun h => by rw [foldl_take hi, posStep, h]; rfl
    refine And.intro (by omega) (Exists.intro _ (And.intro (get_map hi) ?_))
    refine And.intro (fun h2 => ?_) fun h2 => ?_
    · refine And.intro (by omega) (And.intro (by omega) ?_)
      refine Exists.intro (i + 1) (And.intro (by show t.acts[k].effs.length - (i + 1) < t.acts[k].effs.length - i; omega) (And.intro hi (And.intro rfl ?_)))
      simp only [stay (by rw [h2]; rfl)]
    · refine SpecP.mono (f53_spec n1 t.acts[k].effs[i].nil s t.acts[k].effs[i].when_ []) ?_
      rintro _ _ ⟨rfl, rfl⟩
      refine And.intro (fun h3 => ?_) fun h3 => ?_
      · obtain ⟨y, hy⟩ := el_at hft
        refine And.intro hin.1 (And.intro (by rw [hfl]; exact hin.2) (Exists.intro (tB y) (And.intro hy (And.intro (Nat.le_refl 1) ?_))))
        refine And.intro (by omega) (And.intro (by omega) ?_)
        refine Exists.intro (i + 1) (And.intro (by show t.acts[k].effs.length - (i + 1) < t.acts[k].effs.length - i; omega) (And.intro hi (And.intro rfl ?_)))
        show (⟨out, [(129000459, .row 4 1 ((((t.acts[k].effs.take i).foldl (posStep s) (negAll t.facts.length s t.acts[k].effs)).map tB).set (0 + t.acts[k].effs[i].lit.fact.toNat) (tB true)))]⟩ : St) = _
        rw [Nat.zero_add, map_set', foldl_take hi, posStep, h2, h3]; rfl
      · refine And.intro (by omega) (And.intro (by omega) ?_)
        refine Exists.intro (i + 1) (And.intro (by show t.acts[k].effs.length - (i + 1) < t.acts[k].effs.length - i; omega) (And.intro hi (And.intro rfl ?_)))
        simp only [stay (by rw [h3, Bool.and_false])]
  have hi : t.acts[k].effs.length ≤ i := ge_of_dec h1
  have hpl := pl i
  rw [List.take_of_length_le hi] at hpl ⊢
  have hab : t.acts[k].effs.foldl (posStep s) (negAll t.facts.length s t.acts[k].effs) = afterBits t.facts.length s t.acts[k].effs := rfl
  rw [hab] at hpl ⊢
  refine Exists.intro ((afterBits t.facts.length s t.acts[k].effs).map tB) (And.intro (lend (by rw [hpl, hfl])) (And.intro (lend2 (by rw [hpl, hfl])) ?_))
  have m77 := f83_spec false (afterBits t.facts.length s t.acts[k].effs) (by omega)
  have haf : afterL t.facts.length s t.acts[k].effs = listL (afterBits t.facts.length s t.acts[k].effs) := rfl
  rw [haf]
  generalize listL (afterBits t.facts.length s t.acts[k].effs) = L at m77
  refine SpecP.mono (m77 _) ?_
  rintro _ _ ⟨rfl, rfl⟩
  cases L with
  | nil =>
    refine And.intro trivial (And.intro trivial ?_)
    exact Exists.intro [569001843] ⟨rfl, rfl⟩
  | cons x r =>
    refine And.intro trivial (And.intro ⟨flat_ints (b := x :: r), trivial⟩ ?_)
    exact Exists.intro [569001843] ⟨rfl, rfl⟩

end Go.Fw

/- Plans: the plain law. -/
namespace Go.Fw
open Go Go.Proofs

theorem listFrom_mem {x : Int} : ∀ {l : List Bool} {k : Nat}, x ∈ listFrom k l ↔ ∃ i, i < l.length ∧ l.getD i false = true ∧ x = ((k + i : Nat) : Int)
  | [], k => by simp [listFrom]
  | b :: r, k => by
    rw [listFrom, List.mem_append, listFrom_mem]
    constructor
    · rintro (h | ⟨i, hi, hb, hx⟩)
      · cases b with
        | false => simp at h
        | true => simp at h; exact ⟨0, by simp, rfl, by simpa using h⟩
      · exact ⟨i + 1, by simpa using hi, by simpa using hb, by rw [hx]; congr 1; omega⟩
    · rintro ⟨i, hi, hb, hx⟩
      cases i with
      | zero => simp at hb; subst hb; exact .inl (by simpa using hx)
      | succ i => exact .inr ⟨i, by simpa using hi, by simpa using hb, by rw [hx]; congr 1; omega⟩
theorem hasB_listL (b : List Bool) (f : Nat) : hasB (listL b) (f : Int) = b.getD f false := by
  rw [Bool.eq_iff_iff, hasB, List.any_eq_true]
  constructor
  · rintro ⟨x, hx, hf⟩
    obtain ⟨i, _, hb, rfl⟩ := listFrom_mem.1 hx
    have : i = f := by simp at hf; omega
    subst this; exact hb
  · intro hb
    refine ⟨(f : Int), listFrom_mem.2 ⟨f, ?_, hb, by simp⟩, by simp⟩
    rcases Nat.lt_or_ge f b.length with h | h
    · exact h
    · rw [List.getD_eq_getElem?_getD, List.getElem?_eq_none h] at hb; cases hb
theorem listL_in (b : List Bool) : ∀ x ∈ listL b, 0 ≤ x ∧ x < (b.length : Int) := fun x hx => by
  obtain ⟨i, hi, _, rfl⟩ := listFrom_mem.1 hx
  omega

def factsIn (n : Nat) (l : List Eff) : Prop := ∀ e ∈ l, litIn n e.lit
theorem lit_eq {l : Lit} {f : Nat} {v : Bool} (h0 : 0 ≤ l.fact) (h : l.fact.toNat = f) (hv : l.neg = v) : l = ⟨(f : Int), v⟩ := by
  cases l; simp at h0 h hv; simp [hv]; omega
theorem neg_true {s : List Int} {n f : Nat} : ∀ {l : List Eff} {b : List Bool}, factsIn n l → b.length = n → (l.foldl (negStep s) b).getD f false = true → b.getD f false = true
  | [], _, _, _, h => h
  | e :: r, b, hl, hb, h => by
    rw [List.foldl_cons] at h
    have := neg_true (fun x hx => hl x (List.mem_cons_of_mem _ hx)) (by rw [neg_len, hb]) h
    have hin := hl e (List.mem_cons_self ..)
    unfold negStep at this
    split at this
    · rw [getD_set (by have := hin.1; have := hin.2; omega)] at this
      split at this
      · cases this
      · exact this
    · exact this
theorem neg_false {s : List Int} {n f : Nat} : ∀ {l : List Eff} {b : List Bool}, factsIn n l → b.length = n → (l.foldl (negStep s) b).getD f false = false → b.getD f false = false ∨ ∃ e ∈ l, e.lit = ⟨(f : Int), true⟩ ∧ holdsB s e.when_ = true
  | [], _, _, _, h => .inl h
  | e :: r, b, hl, hb, h => by
    rw [List.foldl_cons] at h
    have hin := hl e (List.mem_cons_self ..)
    rcases neg_false (fun x hx => hl x (List.mem_cons_of_mem _ hx)) (by rw [neg_len, hb]) h with this | ⟨x, hx, h1⟩
    · unfold negStep at this
      split at this
      · rename_i hc
        rw [Bool.and_eq_true] at hc
        rw [getD_set (by have := hin.1; have := hin.2; omega)] at this
        split at this
        · rename_i hf; exact .inr ⟨e, List.mem_cons_self .., lit_eq hin.1 hf hc.1, hc.2⟩
        · exact .inl this
      · exact .inl this
    · exact .inr ⟨x, List.mem_cons_of_mem _ hx, h1⟩
theorem pos_false {s : List Int} {n f : Nat} : ∀ {l : List Eff} {b : List Bool}, factsIn n l → b.length = n → (l.foldl (posStep s) b).getD f false = false → b.getD f false = false
  | [], _, _, _, h => h
  | e :: r, b, hl, hb, h => by
    rw [List.foldl_cons] at h
    have := pos_false (fun x hx => hl x (List.mem_cons_of_mem _ hx)) (by rw [pos_len, hb]) h
    have hin := hl e (List.mem_cons_self ..)
    unfold posStep at this
    split at this
    · rw [getD_set (by have := hin.1; have := hin.2; omega)] at this
      split at this
      · cases this
      · exact this
    · exact this
theorem pos_true {s : List Int} {n f : Nat} : ∀ {l : List Eff} {b : List Bool}, factsIn n l → b.length = n → (l.foldl (posStep s) b).getD f false = true → b.getD f false = true ∨ ∃ e ∈ l, e.lit = ⟨(f : Int), false⟩ ∧ holdsB s e.when_ = true
  | [], _, _, _, h => .inl h
  | e :: r, b, hl, hb, h => by
    rw [List.foldl_cons] at h
    have hin := hl e (List.mem_cons_self ..)
    rcases pos_true (fun x hx => hl x (List.mem_cons_of_mem _ hx)) (by rw [pos_len, hb]) h with this | ⟨x, hx, h1⟩
    · unfold posStep at this
      split at this
      · rename_i hc
        rw [Bool.and_eq_true, Bool.not_eq_true'] at hc
        rw [getD_set (by have := hin.1; have := hin.2; omega)] at this
        split at this
        · rename_i hf; exact .inr ⟨e, List.mem_cons_self .., lit_eq hin.1 hf hc.1, hc.2⟩
        · exact .inl this
      · exact .inl this
    · exact .inr ⟨x, List.mem_cons_of_mem _ hx, h1⟩

theorem afterBits_len (n : Nat) (s : List Int) (l : List Eff) : (afterBits n s l).length = n := by
  rw [afterBits, foldl_len (pos_len s), negAll, foldl_len (neg_len s), bitsL_length]
theorem after_true {n : Nat} {s : List Int} {l : List Eff} {f : Nat} (hl : factsIn n l) (hs : ∀ x ∈ s, 0 ≤ x ∧ x < (n : Int)) (hf : f < n) (h : hasB (afterL n s l) (f : Int) = true) : hasB s (f : Int) = true ∨ ∃ e ∈ l, e.lit = ⟨(f : Int), false⟩ ∧ holdsB s e.when_ = true := by
  rw [afterL, hasB_listL] at h
  rcases pos_true hl (by rw [negAll, foldl_len (neg_len s), bitsL_length]) h with h | h
  · have := neg_true hl (bitsL_length _ _) h
    rw [bits_get hs hf] at this; exact .inl this
  · exact .inr h
theorem after_false {n : Nat} {s : List Int} {l : List Eff} {f : Nat} (hl : factsIn n l) (hs : ∀ x ∈ s, 0 ≤ x ∧ x < (n : Int)) (hf : f < n) (h : hasB (afterL n s l) (f : Int) = false) : hasB s (f : Int) = false ∨ ∃ e ∈ l, e.lit = ⟨(f : Int), true⟩ ∧ holdsB s e.when_ = true := by
  rw [afterL, hasB_listL] at h
  have h := pos_false hl (by rw [negAll, foldl_len (neg_len s), bitsL_length]) h
  rcases neg_false hl (bitsL_length _ _) h with h | h
  · rw [bits_get hs hf] at h; exact .inl h
  · exact .inr h
theorem after_in (n : Nat) (s : List Int) (l : List Eff) : ∀ x ∈ afterL n s l, 0 ≤ x ∧ x < (n : Int) := fun x hx => by
  have := listL_in _ x hx
  rwa [afterBits_len] at this

/-! ### Executing a list -/
def pAct (t : Task) (p : List Int) (i : Nat) : Actn := match t.acts[(p.getD i 0).toNat]? with
  | some x => x
  | none => ⟨⟨#[]⟩, 0, true, [], true, []⟩
def stAt (t : Task) (s p : List Int) : Nat → List Int
  | 0 => s
  | i + 1 => afterL t.facts.length (stAt t s p i) (pAct t p i).effs
def costAt (t : Task) (p : List Int) : Nat → Int
  | 0 => 0
  | i + 1 => costAt t p i + (pAct t p i).cost
def okAt (t : Task) (s p : List Int) (i : Nat) : Bool := holdsB (stAt t s p i) (pAct t p i).pre

theorem plan_get {t : Task} {p : List Int} (hp : planB t p = true) {i : Nat} (hi : i < p.length) : ∃ k : Nat, p[i] = (k : Int) ∧ ∃ hk : k < t.acts.length, pAct t p i = t.acts[k] ∧ t.acts[(p.getD i 0).toNat]? = some (pAct t p i) ∧ (p.getD i 0).toNat = k := by
  simp only [planB, Bool.and_eq_true, List.all_eq_true, decide_eq_true_eq] at hp
  have h := hp.2 _ (List.getElem_mem hi)
  have hg : p.getD i 0 = p[i] := by rw [List.getD_eq_getElem?_getD, List.getElem?_eq_getElem hi]; rfl
  have hk : p[i].toNat < t.acts.length := by omega
  refine ⟨p[i].toNat, by omega, hk, ?_, ?_, by rw [hg]⟩
  · rw [pAct, hg, List.getElem?_eq_getElem hk]
  · rw [pAct, hg, List.getElem?_eq_getElem hk]
theorem stAt_in {t : Task} {s p : List Int} (hs : ∀ x ∈ s, 0 ≤ x ∧ x < (t.facts.length : Int)) : ∀ i, ∀ x ∈ stAt t s p i, 0 ≤ x ∧ x < (t.facts.length : Int)
  | 0 => hs
  | _ + 1 => after_in _ _ _
theorem holds_one (s : List Int) (l : Lit) : holdsB s [l] = (hasB s l.fact != l.neg) := by simp [holdsB]
theorem holds_mem {s : List Int} {l : List Lit} (h : holdsB s l = true) : ∀ x ∈ l, holdsB s [x] = true := fun x hx => by
  rw [holds_one]; exact List.all_eq_true.1 h x hx

structure Valid (t : Task) (s p : List Int) : Prop where
  plan : planB t p = true
  ok : ∀ i, i < p.length → okAt t s p i = true
  goal : holdsB (stAt t s p p.length) t.goal = true

/-! ### Sums -/
end Go.Fw

/- What the program's functions do, part 36: plans are executed. -/
namespace Go.Fw
open Go Go.Proofs
set_option maxRecDepth 10000

theorem conv_first {x y : LV} {r : List LV} (hxy : ∀ (β : K → Nat) (RO : Nat → Prop) (w : World) (v : Value), VL β RO w x v → VL β RO w y v) : ∀ (β : K → Nat) (RO : Nat → Prop) (w : World) (vals : List Value), Vals β RO w (x :: r) vals → Vals β RO w (y :: r) vals := fun β RO w vals hv =>
  ⟨hv.1, fun i z v hz hvz => by
    cases i with
    | zero => simp at hz; subst hz; exact hxy β RO w v (hv.2 0 x v rfl hvz)
    | succ i => exact hv.2 (i + 1) z v hz hvz⟩
theorem conv_second {a x y : LV} {r : List LV} (hxy : ∀ (β : K → Nat) (RO : Nat → Prop) (w : World) (v : Value), VL β RO w x v → VL β RO w y v) : ∀ (β : K → Nat) (RO : Nat → Prop) (w : World) (vals : List Value), Vals β RO w (a :: x :: r) vals → Vals β RO w (a :: y :: r) vals := fun β RO w vals hv =>
  ⟨hv.1, fun i z v hz hvz => by
    match i with
    | 0 => exact hv.2 0 z v hz hvz
    | 1 => simp at hz; subst hz; exact hxy β RO w v (hv.2 1 x v rfl hvz)
    | i + 2 => exact hv.2 (i + 2) z v hz hvz⟩

def stRows (t : Task) (s p : List Int) (k : Nat) : List (List T) := (List.range (k + 1)).map fun j => [sT (stAt t s p j)]
theorem stRows_len (t : Task) (s p : List Int) (k : Nat) : (stRows t s p k).length = k + 1 := by simp [stRows]
theorem stRows_step (t : Task) (s p : List Int) (k : Nat) : stRows t s p (k + 1) = stRows t s p k ++ [[sT (stAt t s p (k + 1))]] := by
  rw [stRows, List.range_succ, List.map_append]; rfl
theorem stRows_get {t : Task} {s p : List Int} {k j : Nat} (h : j ≤ k) : (stRows t s p k)[j]? = some [sT (stAt t s p j)] := by
  rw [stRows, List.getElem?_map, List.getElem?_range (by omega)]; rfl
theorem costAt_in {t : Task} {p : List Int} (TK : TaskOK t) (hp : planB t p = true) : ∀ i, i ≤ p.length → 0 ≤ costAt t p i ∧ costAt t p i ≤ 100000 * (i : Int)
  | 0, _ => by simp [costAt]
  | i + 1, hi => by
    have := costAt_in TK hp i (by omega)
    obtain ⟨k, _, hk2, hk3, _⟩ := plan_get hp (show i < p.length by omega)
    have hc := TK.cost _ (List.getElem_mem hk2)
    rw [costAt, hk3]; omega

def kp46 : Kp := [(3, ([3, 6, 7, 15, 16, 17], [24, 112]))]
def od21 : Od := [(4, [(0, .pure), (1, .pure), (2, .pure), (3, .pure), (4, .pure), (5, .pure), (6, .pure), (7, .pure), (8, .pure), (9, .pure), (10, .pure), (11, .eff), (12, .pure), (13, .pure)])]
end Go.Fw

/- The state after an action: the plain law. -/
namespace Go.Fw
open Go Go.Proofs

theorem perm_eraseIdx {α : Type} {a : α} : ∀ {l : List α} {i : Nat}, l[i]? = some a → l.Perm (a :: l.eraseIdx i)
  | [], i, h => by simp at h
  | x :: r, 0, h => by simp at h; subst h; exact List.Perm.refl _
  | x :: r, i + 1, h => by
    have ih := perm_eraseIdx (l := r) (i := i) (by simpa using h)
    rw [List.eraseIdx_cons_succ]
    exact (ih.cons x).trans (List.Perm.swap _ _ _)

theorem inc_ext : ∀ {l m : List Int}, l.Pairwise (· < ·) → m.Pairwise (· < ·) → (∀ x, x ∈ l ↔ x ∈ m) → l = m
  | [], [], _, _, _ => rfl
  | [], b :: m, _, _, h => by have := (h b).2 (List.mem_cons_self ..); cases this
  | a :: l, [], _, _, h => by have := (h a).1 (List.mem_cons_self ..); cases this
  | a :: l, b :: m, hl, hm, h => by
    obtain ⟨hl1, hl2⟩ := List.pairwise_cons.1 hl
    obtain ⟨hm1, hm2⟩ := List.pairwise_cons.1 hm
    have hab : a = b := by
      rcases List.mem_cons.1 ((h a).1 (List.mem_cons_self ..)) with h1 | h1
      · exact h1
      · rcases List.mem_cons.1 ((h b).2 (List.mem_cons_self ..)) with h2 | h2
        · exact h2.symm
        · have := hm1 a h1; have := hl1 b h2; omega
    subst hab
    rw [inc_ext hl2 hm2 fun x => ?_]
    constructor
    · intro hx
      rcases List.mem_cons.1 ((h x).1 (List.mem_cons_of_mem _ hx)) with h1 | h1
      · have := hl1 x hx; omega
      · exact h1
    · intro hx
      rcases List.mem_cons.1 ((h x).2 (List.mem_cons_of_mem _ hx)) with h1 | h1
      · have := hm1 x hx; omega
      · exact h1

theorem listFrom_inc : ∀ (b : List Bool) (k : Nat), (listFrom k b).Pairwise (· < ·) ∧ ∀ x ∈ listFrom k b, (k : Int) ≤ x
  | [], k => ⟨.nil, by simp [listFrom]⟩
  | b :: r, k => by
    obtain ⟨h1, h2⟩ := listFrom_inc r (k + 1)
    cases b with
    | false => exact ⟨by simpa [listFrom] using h1, fun x hx => by have := h2 x (by simpa [listFrom] using hx); omega⟩
    | true =>
      have e : listFrom k (true :: r) = (k : Int) :: listFrom (k + 1) r := rfl
      rw [e]
      refine ⟨List.pairwise_cons.2 ⟨fun x hx => by have := h2 x hx; omega, h1⟩, fun x hx => ?_⟩
      rcases List.mem_cons.1 hx with rfl | hx
      · omega
      · have := h2 x hx; omega
theorem listL_inc (b : List Bool) : (listL b).Pairwise (· < ·) := (listFrom_inc b 0).1

theorem rising_inc {l : List Int} {n : Int} (h : risingB l n = true) : l.Pairwise (· < ·) := List.pairwise_iff_getElem.2 fun i j _ hj hij => rising_lt h j i hj hij
theorem inc_nodup {l : List Int} (h : l.Pairwise (· < ·)) : l.Nodup := h.imp fun hab => by omega
theorem hasB_mem {l : List Int} {x : Int} : hasB l x = true ↔ x ∈ l := by simp [hasB, List.any_eq_true]

theorem sort_inc {L M : List Int} (hn : L.Nodup) (hM : M.Pairwise (· < ·)) (h : ∀ x, x ∈ L ↔ x ∈ M) : (L.mergeSort fun x y => decide (x ≤ y)) = M := by
  have hp := List.mergeSort_perm L fun x y => decide (x ≤ y)
  have hs := List.pairwise_mergeSort (le := fun x y : Int => decide (x ≤ y)) (fun a b c h1 h2 => by simp at *; omega) (fun a b => by simp; omega) L
  have hn' := hp.nodup_iff.2 hn
  refine inc_ext ((hs.and hn').imp fun ⟨h1, h2⟩ => by simp at h1; omega) hM fun x => ?_
  rw [hp.mem_iff]; exact h x

def posB (s : List Int) (l : List Eff) (x : Int) : Bool := l.any fun e => (!e.lit.neg && holdsB s e.when_) && e.lit.fact == x
def negB (s : List Int) (l : List Eff) (x : Int) : Bool := l.any fun e => (e.lit.neg && holdsB s e.when_) && e.lit.fact == x

theorem neg_get {s : List Int} {n f : Nat} : ∀ {l : List Eff} {b : List Bool}, factsIn n l → b.length = n → (l.foldl (negStep s) b).getD f false = (b.getD f false && !negB s l (f : Int))
  | [], b, _, _ => by simp [negB]
  | e :: r, b, hl, hb => by
    have hin := hl e (List.mem_cons_self ..)
    rw [List.foldl_cons, neg_get (fun x hx => hl x (List.mem_cons_of_mem _ hx)) (by rw [neg_len, hb])]
    have e1 : negB s (e :: r) (f : Int) = (((e.lit.neg && holdsB s e.when_) && e.lit.fact == (f : Int)) || negB s r (f : Int)) := rfl
    rw [e1]
    unfold negStep
    split
    · rename_i hc
      rw [hc, getD_set (by have := hin.1; have := hin.2; omega)]
      by_cases hf : e.lit.fact.toNat = f
      · rw [if_pos hf]
        have : (e.lit.fact == (f : Int)) = true := by simp; have := hin.1; omega
        simp [this]
      · rw [if_neg hf]
        have : (e.lit.fact == (f : Int)) = false := by simp; intro h; exact hf (by omega)
        simp [this]
    · rename_i hc
      have hc : (e.lit.neg && holdsB s e.when_) = false := by simpa using hc
      rw [hc]; simp
theorem pos_get {s : List Int} {n f : Nat} : ∀ {l : List Eff} {b : List Bool}, factsIn n l → b.length = n → (l.foldl (posStep s) b).getD f false = (b.getD f false || posB s l (f : Int))
  | [], b, _, _ => by simp [posB]
  | e :: r, b, hl, hb => by
    have hin := hl e (List.mem_cons_self ..)
    rw [List.foldl_cons, pos_get (fun x hx => hl x (List.mem_cons_of_mem _ hx)) (by rw [pos_len, hb])]
    have e1 : posB s (e :: r) (f : Int) = (((!e.lit.neg && holdsB s e.when_) && e.lit.fact == (f : Int)) || posB s r (f : Int)) := rfl
    rw [e1]
    unfold posStep
    split
    · rename_i hc
      rw [hc, getD_set (by have := hin.1; have := hin.2; omega)]
      by_cases hf : e.lit.fact.toNat = f
      · rw [if_pos hf]
        have : (e.lit.fact == (f : Int)) = true := by simp; have := hin.1; omega
        simp [this]
      · rw [if_neg hf]
        have : (e.lit.fact == (f : Int)) = false := by simp; intro h; exact hf (by omega)
        simp [this]
    · rename_i hc
      have hc : (!e.lit.neg && holdsB s e.when_) = false := by simpa using hc
      rw [hc]; simp
theorem after_get {n : Nat} {s : List Int} {l : List Eff} {f : Nat} (hl : factsIn n l) (hs : ∀ x ∈ s, 0 ≤ x ∧ x < (n : Int)) (hf : f < n) : hasB (afterL n s l) (f : Int) = ((hasB s (f : Int) && !negB s l (f : Int)) || posB s l (f : Int)) := by
  rw [afterL, hasB_listL, afterBits, pos_get hl (by rw [negAll, foldl_len (neg_len s), bitsL_length]), negAll, neg_get hl (bitsL_length _ _), bits_get hs hf]

/-- What the program gathers, sorted, is the state after the action. -/
theorem after_sort {n : Nat} {s : List Int} {l : List Eff} {A A' D : List Int} (hl : factsIn n l) (hs : risingB s n = true) (hA : ∀ x, hasB A x = posB s l x) (hD : ∀ x, hasB D x = negB s l x) (hn : A.Nodup) (hp : A'.Perm A) :
    ((s.filter (fun x => !hasB D x || hasB A x) ++ A'.filter fun x => !hasB s x).mergeSort fun x y => decide (x ≤ y)) = afterL n s l := by
  have hin := rising_in hs
  have hns := inc_nodup (rising_inc hs)
  refine sort_inc ?_ (listL_inc _) fun x => ?_
  · refine List.nodup_append.2 ⟨hns.filter _, (hp.nodup_iff.2 hn).filter _, fun a ha b hb hab => ?_⟩
    subst hab
    have h1 := (List.mem_filter.1 ha).1
    have h2 := (List.mem_filter.1 hb).2
    rw [hasB_mem.2 h1] at h2; cases h2
  · have key : ∀ f : Nat, f < n → ((f : Int) ∈ (s.filter (fun x => !hasB D x || hasB A x) ++ A'.filter fun x => !hasB s x) ↔ hasB (afterL n s l) (f : Int) = true) := by
      intro f hf
      rw [after_get hl hin hf, List.mem_append, List.mem_filter, List.mem_filter, hp.mem_iff, ← hasB_mem (l := s), ← hasB_mem (l := A), hA, hD]
      cases hasB s (f : Int) <;> cases negB s l (f : Int) <;> cases posB s l (f : Int) <;> simp
    have hmemA : ∀ x ∈ A, 0 ≤ x ∧ x < (n : Int) := fun x hx => by
      have := hasB_mem.2 hx
      rw [hA, posB, List.any_eq_true] at this
      obtain ⟨e, he, h⟩ := this
      simp only [Bool.and_eq_true, beq_iff_eq] at h
      rw [← h.2]; exact hl e he
    constructor
    · intro hx
      have hr : 0 ≤ x ∧ x < (n : Int) := by
        rcases List.mem_append.1 hx with h | h
        · exact hin x (List.mem_filter.1 h).1
        · exact hmemA x (hp.mem_iff.1 (List.mem_filter.1 h).1)
      obtain ⟨f, rfl⟩ : ∃ f : Nat, x = (f : Int) := ⟨x.toNat, by omega⟩
      exact hasB_mem.1 ((key f (by omega)).1 hx)
    · intro hx
      have hr := after_in n s l x hx
      obtain ⟨f, rfl⟩ : ∃ f : Nat, x = (f : Int) := ⟨x.toNat, by omega⟩
      exact (key f (by omega)).2 (hasB_mem.2 hx)

theorem upd_kvN (x : Int) {l : List Int} (hn : l.Nodup) : ∃ m, updKV (.int .i64 x) (.v (.bool true)) (kvI l) = kvI m ∧ (∀ y, hasB m y = (hasB l y || x == y)) ∧ m.Nodup ∧ m.length ≤ l.length + 1 := by
  have key : ∀ l : List Int, updKV (.int .i64 x) (.v (.bool true)) (kvI l) = kvI (if hasB l x = true then l else l ++ [x]) := by
    intro l
    induction l with
    | nil => rfl
    | cons z r ih =>
      by_cases h : x = z
      · subst h
        simp only [kvI, List.map_cons, updKV]
        rw [if_pos (show sameK (.int .i64 x) (.int .i64 x) = true by simp [sameK]), if_pos (by simp [hasB])]
        rfl
      · simp only [kvI, List.map_cons, updKV] at ih ⊢
        rw [if_neg (show ¬ sameK (.int .i64 x) (.int .i64 z) = true by simpa [sameK] using h), ih]
        have h2 : (z == x) = false := by simpa using fun hh => h hh.symm
        have e : hasB (z :: r) x = hasB r x := by simp only [hasB, List.any_cons, h2, Bool.false_or]
        rw [e]
        split <;> rfl
  refine ⟨_, key l, fun y => ?_, ?_, ?_⟩
  · split
    · rename_i hx
      by_cases hxy : x = y
      · subst hxy; rw [hx]; simp
      · have : (x == y) = false := by simpa using hxy
        rw [this, Bool.or_false]
    · exact hasB_snoc l x y
  · split
    · exact hn
    · rename_i hx
      refine List.nodup_append.2 ⟨hn, by simp, fun a ha b hb hab => ?_⟩
      simp at hb; subst hb; subst hab
      exact hx (hasB_mem.2 ha)
  · split <;> simp

end Go.Fw

/- What the program's functions do, part 38: the state after an action. -/
namespace Go.Fw
open Go Go.Proofs
set_option maxRecDepth 10000

theorem accV_ne {σ sz : Nat} {es : List (List T)} (h : es ≠ []) : accV σ sz es = .osl (.cur σ) sz 0 es.length := by
  cases es with
  | nil => exact absurd rfl h
  | cons x r => rfl
theorem accO_ne {σ e sz : Nat} {es : List (List T)} (h : es ≠ []) : accO σ e sz es = [(σ, .row e sz es)] := by
  cases es with
  | nil => exact absurd rfl h
  | cons x r => rfl
theorem kvI_erase : ∀ (R : List Int) (i : Nat), (kvI R).eraseIdx i = kvI (R.eraseIdx i)
  | [], _ => rfl
  | _ :: _, 0 => rfl
  | _ :: r, i + 1 => congrArg (_ :: ·) (kvI_erase r i)
theorem kvI_get {R : List Int} {i : Nat} {p : Value × T} (h : (kvI R)[i]? = some p) : ∃ x, R[i]? = some x ∧ p = (.int .i64 x, .v (.bool true)) := by
  rw [kvI, List.getElem?_map] at h
  cases hx : R[i]? with
  | none => rw [hx] at h; cases h
  | some x => rw [hx] at h; cases h; exact ⟨x, rfl, rfl⟩
theorem posB_step {s : List Int} {l : List Eff} {i : Nat} (hi : i < l.length) (x : Int) : posB s (l.take (i + 1)) x = (posB s (l.take i) x || ((!l[i].lit.neg && holdsB s l[i].when_) && l[i].lit.fact == x)) := by
  rw [posB, List.take_add_one, List.getElem?_eq_getElem hi, Option.toList_some, List.any_append]; simp [posB]
theorem negB_step {s : List Int} {l : List Eff} {i : Nat} (hi : i < l.length) (x : Int) : negB s (l.take (i + 1)) x = (negB s (l.take i) x || ((l[i].lit.neg && holdsB s l[i].when_) && l[i].lit.fact == x)) := by
  rw [negB, List.take_add_one, List.getElem?_eq_getElem hi, Option.toList_some, List.any_append]; simp [negB]
theorem filter_step {l : List Int} {p : Int → Bool} {i : Nat} (hi : i < l.length) : (l.take (i + 1)).filter p = (l.take i).filter p ++ if p l[i] then [l[i]] else [] := by
  rw [List.take_add_one, List.getElem?_eq_getElem hi, Option.toList_some, List.filter_append]
  cases h : p l[i] <;> simp [h]
theorem filter_len {l : List Int} {p : Int → Bool} : (l.filter p).length ≤ l.length := List.length_filter_le ..

def kp63 : Kp := [(3, ([0, 5, 6, 16, 17, 18], [104, 112])), (12, ([0, 5, 6, 9, 38, 39, 40], [104, 112, 448])), (18, ([0, 9, 59], [472, 448, 568]))]
theorem f63_spec (n1 : Bool) (s : List Int) (a : Actn) (n : Nat) (hs : risingB s n = true) (hn : n ≤ 1000000000) (hf : factsIn n a.effs) (he : a.effs.length ≤ 1000000) (out : List Fr) :
    SpecP Try.prog 63 [.ints n1 s, .act a] out fun r ro => r = .t (sT (afterL n s a.effs)) ∧ ro = [] := by
  refine SpecP.close (Post := fun r ro => ∃ σ, r = accV σ 1 ((afterL n s a.effs).map tI) ∧ ro = accO σ 3 1 ((afterL n s a.effs).map tI)) ?_ ?_
  rotate_left
  · rintro r ro ⟨σ, rfl, rfl⟩
    generalize afterL n s a.effs = L
    cases L with
    | nil => exact ⟨_, .same _, rfl, rfl⟩
    | cons x r =>
      refine ⟨_, .row σ 3 1 0 _ ((x :: r).map tI) (by show look [(σ, _)] σ = _; rw [look_cons, if_pos rfl]; rfl) (by simp), ?_, rfl⟩
      show LV.t (.sl false 1 ((((x :: r).map tI).drop 0).take ((x :: r).map tI).length)) = _
      rw [← take_all]; rfl
  refine spec_body cx_ok kp63 [] (fn := Try.f63) (by kernel_rfl) rfl (by kernel_rfl) rfl (by unfold FnOK; kernel_rfl) fun hok => ?_
  have hsl := rising_len hs (by omega)
  refine LoopW.mk (Nat × List Int × List Int) (fun u => u.1 ≤ a.effs.length ∧ (∀ x, hasB u.2.1 x = posB s (a.effs.take u.1) x) ∧ (∀ x, hasB u.2.2 x = negB s (a.effs.take u.1) x) ∧ u.2.1.Nodup ∧ u.2.2.Nodup ∧ u.2.1.length ≤ u.1)
    (fun u => [(0, .ints n1 s), (5, .mpr (.cur 104)), (6, .mpr (.cur 112)), (16, .t (.sl a.en 3 (a.effs.map tEff))), (17, .int (a.effs.map tEff).length), (18, .int u.1)])
    (fun u => ⟨out, [(104, .mp (.int .i64) (kvI u.2.1)), (112, .mp (.int .i64) (kvI u.2.2))]⟩) (fun u => a.effs.length - u.1) (0, [], []) ⟨Nat.zero_le _, fun _ => rfl, fun _ => rfl, .nil, .nil, Nat.le_refl _⟩ ⟨rfl, rfl⟩ ?_
  rintro ⟨i, A, D⟩ ⟨hi0, hA, hD, hAn, hDn, hAl⟩
  simp only at hi0 hA hD hAn hDn hAl
  refine And.intro (fun h1 => ?_) fun h1 => ?_
  · have hi := lt_of_dec h1
    refine And.intro (by omega) (Exists.intro _ (And.intro (get_map hi) ?_))
    refine SpecP.mono (f61_spec n1 a.effs[i].nil s a.effs[i].when_ n hs (by omega) []) ?_
    rintro _ _ ⟨rfl, rfl⟩
    have fin : ∀ (A' D' : List Int), (∀ x, hasB A' x = (hasB A x || ((!a.effs[i].lit.neg && holdsB s a.effs[i].when_) && a.effs[i].lit.fact == x))) → (∀ x, hasB D' x = (hasB D x || ((a.effs[i].lit.neg && holdsB s a.effs[i].when_) && a.effs[i].lit.fact == x))) → A'.Nodup → D'.Nodup → A'.length ≤ i + 1 →
        (i + 1 ≤ a.effs.length ∧ (∀ x, hasB A' x = posB s (a.effs.take (i + 1)) x) ∧ (∀ x, hasB D' x = negB s (a.effs.take (i + 1)) x) ∧ A'.Nodup ∧ D'.Nodup ∧ A'.length ≤ i + 1) := fun A' D' h1 h2 h3 h4 h5 =>
      ⟨hi, fun x => by rw [h1, posB_step hi, hA], fun x => by rw [h2, negB_step hi, hD], h3, h4, h5⟩
    refine And.intro (fun h2 => ?_) fun h2 => ?_
    · refine And.intro (fun h3 => ?_) fun h3 => ?_
      · obtain ⟨m, g1, g2, g3, _⟩ := upd_kvN a.effs[i].lit.fact hDn
        refine And.intro (by omega) (And.intro (by omega) ?_)
        refine Exists.intro (i + 1, A, m) (And.intro (by show a.effs.length - (i + 1) < a.effs.length - i; omega) (And.intro (fin A m (fun x => by rw [h3]; simp) (fun x => by rw [g2, h2, h3]; simp) hAn g3 (by omega)) (And.intro rfl ?_)))
        show (⟨out, [(104, .mp (.int .i64) (kvI A)), (112, .mp (.int .i64) (updKV (.int .i64 a.effs[i].lit.fact) (.v (.bool true)) (kvI D)))]⟩ : St) = _
        rw [g1]
      · obtain ⟨m, g1, g2, g3, g4⟩ := upd_kvN a.effs[i].lit.fact hAn
        refine And.intro (by omega) (And.intro (by omega) ?_)
        refine Exists.intro (i + 1, m, D) (And.intro (by show a.effs.length - (i + 1) < a.effs.length - i; omega) (And.intro (fin m D (fun x => by rw [g2, h2, h3]; simp) (fun x => by rw [h3]; simp) g3 hDn (by omega)) (And.intro rfl ?_)))
        show (⟨out, [(104, .mp (.int .i64) (updKV (.int .i64 a.effs[i].lit.fact) (.v (.bool true)) (kvI A))), (112, .mp (.int .i64) (kvI D))]⟩ : St) = _
        rw [g1]
    · refine And.intro (by omega) (And.intro (by omega) ?_)
      exact Exists.intro (i + 1, A, D) (And.intro (by show a.effs.length - (i + 1) < a.effs.length - i; omega) (And.intro (fin A D (fun x => by rw [h2]; simp) (fun x => by rw [h2]; simp) hAn hDn (by omega)) (And.intro rfl rfl)))
  have hi : a.effs.length ≤ i := ge_of_dec h1
  rw [List.take_of_length_le hi] at hA hD
  have hAl : A.length ≤ 1000000 := by omega
  clear h1 hi hi0
  -- what stays
  refine LoopW.mk (Nat × List Int) (fun u => u.1 ≤ s.length ∧ u.2 = (s.take u.1).filter (fun x => !hasB D x || hasB A x)) (fun u => [(0, .ints n1 s), (5, .mpr (.cur 104)), (6, .mpr (.cur 112)), (9, accV 448 1 (u.2.map tI)), (38, .ints n1 s), (39, .int (s.map tI).length), (40, .int u.1)])
    (fun u => ⟨out, (104, .mp (.int .i64) (kvI A)) :: (112, .mp (.int .i64) (kvI D)) :: accO 448 3 1 (u.2.map tI)⟩) (fun u => s.length - u.1) (0, []) ⟨Nat.zero_le _, rfl⟩ ⟨rfl, rfl⟩ ?_
  rintro ⟨j, L⟩ ⟨hj0, hL⟩
  simp only at hj0 hL
  have hLl : L.length ≤ s.length := by rw [hL]; exact Nat.le_trans filter_len (by simp; omega)
  have hpl : ∀ {x : Int}, (!hasB D x || hasB A x) = false → hasB D x = true ∧ hasB A x = false := fun {x} h => by
    cases h1 : hasB D x <;> cases h2 : hasB A x <;> simp [h1, h2] at h ⊢
  rcases L with _ | ⟨y, r⟩
  all_goals
    refine And.intro (fun h1 => ?_) fun h1 => ?_
    · have hj := lt_of_dec h1
      have stp := filter_step (l := s) (p := fun x => !hasB D x || hasB A x) hj
      rw [← hL] at stp
      have hlen := hok.1.1
      refine And.intro (by omega) (Exists.intro _ (And.intro (get_map hj) ?_))
      refine Exists.intro _ (And.intro (look_kvI _ _) ?_)
      refine And.intro (fun h2 => ?_) fun h2 => ?_
      · refine Exists.intro _ (And.intro (look_kvI _ _) ?_)
        refine And.intro (fun h3 => ?_) fun h3 => ?_
        · have hp : (!hasB D s[j] || hasB A s[j]) = true := by rw [h2, h3]; rfl
          simp only [hp, if_true] at stp
          first
            | (refine And.intro (Nat.le_of_ble_eq_true rfl) (And.intro (Nat.le_of_ble_eq_true rfl) (And.intro (Nat.le_of_ble_eq_true rfl) ?_))
               refine And.intro (by omega) (And.intro (by omega) ?_)
               exact Exists.intro (j + 1, [s[j]]) (And.intro (by show s.length - (j + 1) < s.length - j; omega) (And.intro ⟨hj, stp.symm⟩ (And.intro rfl rfl))))
            | (have hl2 : ((tI y :: r.map tI) ++ [tI s[j]]).length ≤ s.length + 1 := by simp at hLl ⊢; omega
               refine And.intro (Nat.le_of_ble_eq_true rfl) (And.intro rfl (And.intro (by show ((tI y :: r.map tI) ++ [tI s[j]]).length * 8 ≤ _; omega) (And.intro (by show ((tI y :: r.map tI) ++ [tI s[j]]).length ≤ _; omega) ?_)))
               refine And.intro (by omega) (And.intro (by omega) ?_)
               have e : (r ++ [s[j]]).map tI = r.map tI ++ [tI s[j]] := by simp
               refine Exists.intro (j + 1, y :: (r ++ [s[j]])) (And.intro (by show s.length - (j + 1) < s.length - j; omega) (And.intro ⟨hj, stp.symm⟩ ?_))
               simp only [List.map_cons, e]
               exact And.intro rfl rfl)
        · have hp : (!hasB D s[j] || hasB A s[j]) = false := by rw [h2, h3]; rfl
          simp only [hp, Bool.false_eq_true, if_false, List.append_nil] at stp
          refine And.intro (by omega) (And.intro (by omega) ?_)
          exact Exists.intro (j + 1, _) (And.intro (by show s.length - (j + 1) < s.length - j; omega) (And.intro ⟨hj, stp.symm⟩ (And.intro rfl rfl)))
      · have hp : (!hasB D s[j] || hasB A s[j]) = true := by rw [h2]; rfl
        simp only [hp, if_true] at stp
        first
          | (refine And.intro (Nat.le_of_ble_eq_true rfl) (And.intro (Nat.le_of_ble_eq_true rfl) (And.intro (Nat.le_of_ble_eq_true rfl) ?_))
             refine And.intro (by omega) (And.intro (by omega) ?_)
             exact Exists.intro (j + 1, [s[j]]) (And.intro (by show s.length - (j + 1) < s.length - j; omega) (And.intro ⟨hj, stp.symm⟩ (And.intro rfl rfl))))
          | (have hl2 : ((tI y :: r.map tI) ++ [tI s[j]]).length ≤ s.length + 1 := by simp at hLl ⊢; omega
             refine And.intro (Nat.le_of_ble_eq_true rfl) (And.intro rfl (And.intro (by show ((tI y :: r.map tI) ++ [tI s[j]]).length * 8 ≤ _; omega) (And.intro (by show ((tI y :: r.map tI) ++ [tI s[j]]).length ≤ _; omega) ?_)))
             refine And.intro (by omega) (And.intro (by omega) ?_)
             have e : (r ++ [s[j]]).map tI = r.map tI ++ [tI s[j]] := by simp
             refine Exists.intro (j + 1, y :: (r ++ [s[j]])) (And.intro (by show s.length - (j + 1) < s.length - j; omega) (And.intro ⟨hj, stp.symm⟩ ?_))
             simp only [List.map_cons, e]
             exact And.intro rfl rfl)
    have hj : s.length ≤ j := ge_of_dec h1
    rw [List.take_of_length_le hj] at hL
    have hbig : ∀ {L1 Pd R : List Int}, L1.length ≤ s.length → (Pd ++ R).Perm A → (L1 ++ Pd.filter fun x => !hasB s x).length ≤ 1001000000 := fun {L1 Pd R} h1 h2 => by
      have h3 := h2.length_eq
      have h4 := filter_len (l := Pd) (p := fun x => !hasB s x)
      rw [List.length_append] at h3 ⊢; omega
    first
      | refine LoopW.mk ((Value × T) × List Int × List Int) (fun u => ∃ Pd, (Pd ++ u.2.1).Perm A ∧ u.2.2 = [] ++ Pd.filter fun x => !hasB s x) (fun u => [(0, .ints n1 s), (9, accV 568 1 (u.2.2.map tI)), (59, .ptr (.cur 472) 0)])
          (fun u => ⟨out, (472, .mit (.cur 104) (u.1 :: kvI u.2.1)) :: accO 568 3 1 (u.2.2.map tI)⟩) (fun u => u.2.1.length) ((.slice none 0 0, .v (.bool false)), A, []) ⟨[], List.Perm.refl _, rfl⟩ ⟨rfl, rfl⟩ ?_
      | refine LoopW.mk ((Value × T) × List Int × List Int) (fun u => ∃ Pd, (Pd ++ u.2.1).Perm A ∧ u.2.2 = (y :: r) ++ Pd.filter fun x => !hasB s x) (fun u => [(0, .ints n1 s), (9, accV 448 1 (u.2.2.map tI)), (59, .ptr (.cur 472) 0)])
          (fun u => ⟨out, (472, .mit (.cur 104) (u.1 :: kvI u.2.1)) :: accO 448 3 1 (u.2.2.map tI)⟩) (fun u => u.2.1.length) ((.slice none 0 0, .v (.bool false)), A, y :: r) ⟨[], List.Perm.refl _, by simp⟩ ⟨rfl, rfl⟩ ?_
    rintro ⟨c, R, L⟩ ⟨Pd, hP, hL3⟩
    simp only at hP hL3
    have hLl3 : L.length ≤ 1001000000 := by rw [hL3]; exact hbig hLl hP
    rcases L with _ | ⟨z, q⟩
    all_goals
      first
        | (exfalso; simp at hL3; done)
        | (refine And.intro (fun hz => ?_) fun i p hp => ?_
           · have hR : R = [] := by
               cases R with
               | nil => rfl
               | cons _ _ => cases hz
             rw [hR, List.append_nil] at hP
             have hS := after_sort (n := n) (l := a.effs) (A' := Pd) (D := D) hf hs hA hD hAn hP
             rw [← hL, ← hL3] at hS
             refine And.intro (fun h => Bool.noConfusion h) fun _ => ?_
             first
               | (have hS0 : afterL n s a.effs = [] := by rw [← hS]; exact List.mergeSort_nil ..
                  exact Exists.intro [568] ⟨568, by rw [hS0]; rfl, by rw [hS0]; rfl⟩)
               | (refine Exists.intro (z :: q) (And.intro rfl (And.intro (by simp) (And.intro (by omega) ?_)))
                  have hlm : ((z :: q).mergeSort fun x y => decide (x ≤ y)).length = (z :: q).length := List.length_mergeSort ..
                  have hne : (afterL n s a.effs).map tI ≠ [] := fun h => by
                    rw [← hS] at h
                    have := congrArg List.length h
                    rw [List.length_map, hlm] at this
                    simp at this
                  have hln : ((afterL n s a.effs).map tI).length = ((z :: q).map tI).length := by rw [← hS]; simp
                  first
                    | (refine Exists.intro [568] ⟨568, ?_, ?_⟩
                       · rw [accV_ne hne, hln]; rfl
                       · rw [accO_ne hne, ← hS]; rfl)
                    | (refine Exists.intro [448] ⟨448, ?_, ?_⟩
                       · rw [accV_ne hne, hln]; rfl
                       · rw [accO_ne hne, ← hS]; rfl))
           · obtain ⟨x, hx, rfl⟩ := kvI_get hp
             have hil : i < R.length := (List.getElem?_eq_some_iff.1 hx).1
             have hms : (R.eraseIdx i).length < R.length := by rw [List.length_eraseIdx_of_lt hil]; omega
             have hP' : ((Pd ++ [x]) ++ R.eraseIdx i).Perm A := by
               rw [List.append_assoc]
               exact ((perm_eraseIdx hx).symm.append_left Pd).trans hP
             refine And.intro (fun _ => ?_) fun h => Bool.noConfusion h
             refine SpecP.mono (f93_spec n1 s n x hs (by omega) []) ?_
             rintro _ _ ⟨rfl, rfl⟩
             refine And.intro (fun h3 => ?_) fun h3 => ?_
             · first
                 | (refine Exists.intro ((.int .i64 x, .v (.bool true)), R.eraseIdx i, []) (And.intro hms (And.intro ⟨Pd ++ [x], hP', ?_⟩ (And.intro rfl ?_)))
                    · show _ = _ ++ (Pd ++ [x]).filter fun x => !hasB s x
                      rw [show (Pd ++ [x]).filter (fun x => !hasB s x) = Pd.filter fun x => !hasB s x by rw [List.filter_append]; simp [h3]]; exact hL3
                    · simp only [← kvI_erase]; rfl)
                 | (refine Exists.intro ((.int .i64 x, .v (.bool true)), R.eraseIdx i, z :: q) (And.intro hms (And.intro ⟨Pd ++ [x], hP', ?_⟩ (And.intro rfl ?_)))
                    · show _ = _ ++ (Pd ++ [x]).filter fun x => !hasB s x
                      rw [show (Pd ++ [x]).filter (fun x => !hasB s x) = Pd.filter fun x => !hasB s x by rw [List.filter_append]; simp [h3]]; exact hL3
                    · simp only [← kvI_erase]; rfl)
             · have hfx : (Pd ++ [x]).filter (fun x => !hasB s x) = (Pd.filter fun x => !hasB s x) ++ [x] := by rw [List.filter_append]; simp [h3]
               first
                 | (refine And.intro (Nat.le_of_ble_eq_true rfl) (And.intro (Nat.le_of_ble_eq_true rfl) (And.intro (Nat.le_of_ble_eq_true rfl) ?_))
                    refine Exists.intro ((.int .i64 x, .v (.bool true)), R.eraseIdx i, [x]) (And.intro hms (And.intro ⟨Pd ++ [x], hP', ?_⟩ (And.intro rfl ?_)))
                    · show [x] = _ ++ (Pd ++ [x]).filter fun x => !hasB s x
                      rw [hfx, ← List.append_assoc, ← hL3]; rfl
                    · simp only [← kvI_erase]; rfl)
                 | (have hl2 : ((tI z :: q.map tI) ++ [tI x]).length ≤ 1001000001 := by simp at hLl3 ⊢; omega
                    refine And.intro (Nat.le_of_ble_eq_true rfl) (And.intro rfl (And.intro (by show ((tI z :: q.map tI) ++ [tI x]).length * 8 ≤ _; omega) (And.intro (by show ((tI z :: q.map tI) ++ [tI x]).length ≤ _; omega) ?_)))
                    have e : (q ++ [x]).map tI = q.map tI ++ [tI x] := by simp
                    refine Exists.intro ((.int .i64 x, .v (.bool true)), R.eraseIdx i, z :: (q ++ [x])) (And.intro hms (And.intro ⟨Pd ++ [x], hP', ?_⟩ ?_))
                    · show z :: (q ++ [x]) = _ ++ (Pd ++ [x]).filter fun x => !hasB s x
                      rw [hfx, ← List.append_assoc, ← hL3]; rfl
                    · simp only [List.map_cons, e, ← kvI_erase]
                      exact And.intro rfl rfl))

end Go.Fw

/- What the program's functions do, part 39: copies of lists, lists of actions. -/
namespace Go.Fw
open Go Go.Proofs
set_option maxRecDepth 10000

theorem vt_nil {RO : Nat → Prop} {w : World} {v : Value} {b : Bool} {sz : Nat} {es : List (List T)} (h : VT RO w (.sl b sz es) v) : b = true → es = [] := fun hb => by
  cases h <;> first | rfl | cases hb
/-- A nil argument has no elements. -/
theorem SpecP.nil_arg {P : Program} {f : Nat} {args : List LV} {out : List Fr} {Post : LV → Fr → Prop} {i : Nat} {n1 : Bool} {s : List Int} (hi : args[i]? = some (.ints n1 s)) (hfn : FnOK P f) (h : (n1 = true → s = []) → SpecP P f args out Post) : SpecP P f args out Post :=
  ⟨hfn, fun β RO w vals hw hv => (h fun hn => by
    have hl : i < vals.length := by rw [← hv.1]; exact (List.getElem?_eq_some_iff.1 hi).1
    have hx := hv.2 i _ _ hi (List.getElem?_eq_getElem hl)
    cases hx with
    | t _ _ hx => exact List.map_eq_nil_iff.1 (vt_nil hx hn)).calls β RO w vals hw hv⟩

def inA (t : Task) (x : Int) : Bool := decide (x < 0) || decide (x ≥ t.acts.length)
def kp104 : Kp := [(2, ([0, 1, 7, 8], []))]
theorem planB_any (t : Task) (p : List Int) : planB t p = (decide (p.length ≤ 10000) && !p.any (inA t)) := by
  have : (p.all fun x => decide (0 ≤ x) && decide (x < t.acts.length)) = !p.any (inA t) := by
    rw [List.not_any_eq_all_not]
    congr 1; funext x
    rw [inA, Bool.eq_iff_iff]; simp
  rw [planB, this]
/-! ### The states of a run -/
theorem rising_of {l : List Int} {n : Int} (h : l.Pairwise (· < ·)) (h2 : ∀ x ∈ l, 0 ≤ x ∧ x < n) : risingB l n = true := by
  rw [risingB, List.all_eq_true]
  intro i hi
  have hi : i < l.length := List.mem_range.1 hi
  have h3 := h2 _ (List.getElem_mem hi)
  simp only [chkI, at0_eq hi, Bool.and_eq_true, Bool.or_eq_true, decide_eq_true_eq, beq_iff_eq]
  refine ⟨h3, ?_⟩
  cases i with
  | zero => exact .inl rfl
  | succ i => right; rw [Nat.add_sub_cancel, at0_eq (show i < l.length by omega)]; exact List.pairwise_iff_getElem.1 h i (i + 1) (by omega) hi (by omega)
theorem after_rising (n : Nat) (s : List Int) (l : List Eff) : risingB (afterL n s l) n = true := rising_of (listL_inc _) (after_in n s l)
theorem st_rising {t : Task} {s p : List Int} (hs : risingB s t.facts.length = true) : ∀ i, risingB (stAt t s p i) t.facts.length = true
  | 0 => hs
  | _ + 1 => after_rising ..

/-- Is the state after i actions nil? -/
def stN (n1 : Bool) (t : Task) (s p : List Int) : Nat → Bool
  | 0 => n1
  | i + 1 => (stAt t s p (i + 1)).isEmpty
def tIs (b : Bool) (s : List Int) : T := .sl b 1 (s.map tI)
def stTs (n1 : Bool) (t : Task) (s p : List Int) (k : Nat) : List (List T) := (List.range (k + 1)).map fun j => [tIs (stN n1 t s p j) (stAt t s p j)]
theorem stTs_len (n1 : Bool) (t : Task) (s p : List Int) (k : Nat) : (stTs n1 t s p k).length = k + 1 := by simp [stTs]
theorem stTs_step (n1 : Bool) (t : Task) (s p : List Int) (k : Nat) : stTs n1 t s p (k + 1) = stTs n1 t s p k ++ [[tIs (stN n1 t s p (k + 1)) (stAt t s p (k + 1))]] := by
  rw [stTs, List.range_succ, List.map_append]; rfl
theorem stTs_get {n1 : Bool} {t : Task} {s p : List Int} {k j : Nat} (h : j ≤ k) : (stTs n1 t s p k)[j]? = some [tIs (stN n1 t s p j) (stAt t s p j)] := by
  rw [stTs, List.getElem?_map, List.getElem?_range (by omega)]; rfl

theorem f63i_spec (n1 : Bool) (s : List Int) (a : Actn) (n : Nat) (hs : risingB s n = true) (hn : n ≤ 1000000000) (hf : factsIn n a.effs) (he : a.effs.length ≤ 1000000) (out : List Fr) :
    SpecP Try.prog 63 [.ints n1 s, .act a] out fun r ro => r = .ints (afterL n s a.effs).isEmpty (afterL n s a.effs) ∧ ro = [] :=
  (f63_spec n1 s a n hs hn hf he out).close fun r ro h => by
    obtain ⟨rfl, rfl⟩ := h
    generalize afterL n s a.effs = L
    cases L with
    | nil => exact ⟨_, .nil 0 1, rfl, rfl⟩
    | cons x r => exact ⟨_, .same _, rfl, rfl⟩

end Go.Fw

/- Executing plans: the reference and the program. -/
namespace Go.Fw
open Go Go.Proofs
set_option maxRecDepth 10000

def kp51 : Kp := [(4, ([2, 10, 11, 12], [16]))]
theorem f51_spec (t : Task) (n2 : Bool) (p : List Int) (out : List Fr) : SpecP Try.prog 51 [.task t, .ints n2 p] out fun r ro => r = .bool (planB t p) ∧ ro = [] := by
  refine spec_body cx_ok kp51 [] (fn := Try.f51) (by kernel_rfl) rfl (by kernel_rfl) rfl (by unfold FnOK; kernel_rfl) fun hok => ?_
  refine And.intro (fun h1 => ?_) fun h1 => ?_
  · have h1 := of_decide_eq_true h1
    rw [List.length_map] at h1
    exact Exists.intro [] (ret_bool (by simp [planB]; omega) rfl)
  have h1 := of_decide_eq_false h1
  rw [List.length_map] at h1
  refine LoopW.mk Nat (fun i => i ≤ p.length ∧ (p.take i).all (fun x => decide (0 ≤ x) && decide (x < t.acts.length)) = true) (fun i => [(2, .ptr (.cur 16) 0), (10, .ints n2 p), (11, .int (p.map tI).length), (12, .int i)])
    (fun _ => ⟨out, [(16, .box (cellsTask t))]⟩) (fun i => p.length - i) 0 ⟨Nat.zero_le _, rfl⟩ ⟨rfl, rfl⟩ fun i hI => ?_
  refine And.intro (fun h2 => ?_) fun h2 => ?_
  · have hi := lt_of_dec h2
    have bad : (decide (0 ≤ p[i]) && decide (p[i] < t.acts.length)) = false → planB t p = false := fun h => by rw [planB, all_false hi h, Bool.and_false]
    refine And.intro (by omega) (Exists.intro _ (And.intro (get_map hi) ?_))
    refine And.intro (fun h3 => ?_) fun h3 => ?_
    · have h3 := of_decide_eq_true h3
      exact Exists.intro [] (ret_bool (bad (by simp; omega)) rfl)
    have h3 := of_decide_eq_false h3
    refine And.intro (fun h4 => ?_) fun h4 => ?_
    · have h4 := of_decide_eq_true h4
      rw [List.length_map] at h4
      exact Exists.intro [] (ret_bool (bad (by simp; omega)) rfl)
    have h4 := of_decide_eq_false h4
    rw [List.length_map] at h4
    refine And.intro (by omega) (And.intro (by omega) ?_)
    exact Exists.intro (i + 1) (And.intro (by show p.length - (i + 1) < p.length - i; omega) (And.intro ⟨hi, all_step hi hI.2 (by simp; omega)⟩ (And.intro rfl rfl)))
  · have := all_end (ge_of_dec h2) hI.2
    exact Exists.intro [] (ret_bool (by rw [planB, this]; simp; omega) rfl)

def kp52 : Kp := [(3, ([3, 6, 7, 15, 16, 17], [24, 112]))]
theorem f52_spec (t : Task) (n1 n2 : Bool) (s p : List Int) (TK : TaskOK t) (hs : risingB s t.facts.length = true) (hp : planB t p = true) (out : List Fr) :
    SpecP Try.prog 52 [.task t, .ints n1 s, .ints n2 p] out fun r ro => ∃ (k : Nat) (at_ : Int), k ≤ p.length ∧ (∀ i, i < k → okAt t s p i = true) ∧ ((k = p.length ∧ at_ = -1) ∨ (k < p.length ∧ okAt t s p k = false ∧ at_ = (k : Int))) ∧
      r = .tup [.osl (.cur 112) 1 0 (stRows t s p k).length, .int (costAt t p k), .int at_] ∧ ro = [(112, .row 40 1 (stRows t s p k))] := by
  refine spec_body cx_ok kp52 [] (fn := Try.f52) (by kernel_rfl) rfl (by kernel_rfl) rfl (by unfold FnOK; kernel_rfl) fun hok => ?_
  have hin := rising_in hs
  have hN := TK.facts
  have hsl := rising_len hs (by omega)
  have hpl : p.length ≤ 10000 := by simp only [planB, Bool.and_eq_true, decide_eq_true_eq] at hp; exact hp.1
  have h00 : stRows t s p 0 = [[sT s]] := rfl
  cases hcs : s
  case' nil =>
    refine LoopW.mk Nat (fun i => i ≤ p.length ∧ ∀ j, j < i → okAt t s p j = true) (fun i => [(3, .ptr (.cur 24) 0), (6, .osl (.cur 112) 1 0 (stRows t s p i).length), (7, .int (costAt t p i)), (15, .ints n2 p), (16, .int (p.map tI).length), (17, .int i)])
      (fun i => ⟨out, [(24, .box (cellsTask t)), (112, .row 40 1 (stRows t s p i))]⟩) (fun i => p.length - i) 0 ⟨Nat.zero_le _, fun j hj => by omega⟩ ⟨rfl, by rw [h00, hcs]; rfl⟩ fun i hI => ?_
  case' cons x r =>
    have hl' : (tI x :: r.map tI).length = s.length := by rw [hcs]; simp
    refine And.intro (by rw [hl']; show s.length * 8 ≤ 140737488355328; omega) (And.intro (by rw [hl']; omega) ?_)
    refine And.intro (by simp) ?_
    refine LoopW.mk Nat (fun i => i ≤ p.length ∧ ∀ j, j < i → okAt t s p j = true) (fun i => [(3, .ptr (.cur 24) 0), (6, .osl (.cur 112) 1 0 (stRows t s p i).length), (7, .int (costAt t p i)), (15, .ints n2 p), (16, .int (p.map tI).length), (17, .int i)])
      (fun i => ⟨out, [(24, .box (cellsTask t)), (112, .row 40 1 (stRows t s p i))]⟩) (fun i => p.length - i) 0 ⟨Nat.zero_le _, fun j hj => by omega⟩ ⟨rfl, ?_⟩ fun i hI => ?_
    · rw [h00, hcs]
      show (⟨out, [(24, .box (cellsTask t)), (112, .row 40 1 [[.sl false 1 ((((x :: r).map tI).drop 0).take ((x :: r).map tI).length)]])]⟩ : St) = _
      rw [← take_all]; rfl
  all_goals
    have hlen := stRows_len t s p i
    refine And.intro (fun h1 => ?_) fun h1 => ?_
    · have hi := lt_of_dec h1
      obtain ⟨k, hk1, hk2, hk3, _⟩ := plan_get hp hi
      have hci := costAt_in TK hp i hI.1
      have hc := TK.cost _ (List.getElem_mem hk2)
      have hsi := stAt_in (t := t) (p := p) hin i
      refine And.intro (by omega) (Exists.intro (tI k) (And.intro (by rw [← hk1]; exact get_map hi) ?_))
      refine And.intro (by omega) (And.intro (by omega) ?_)
      refine And.intro (by omega) (And.intro (by omega) (Exists.intro [sT (stAt t s p i)] (And.intro (by rw [show 0 + (((stRows t s p i).length : Int) - 1).toNat = i by omega]; exact stRows_get (Nat.le_refl i)) ?_)))
      refine And.intro (by omega) (Exists.intro _ (And.intro (get_map hk2) ?_))
      refine SpecP.conv (conv_first fun _ _ _ _ => sT_vl) (SpecP.mono (f53_spec (stAt t s p i).isEmpty t.acts[k].pn (stAt t s p i) t.acts[k].pre []) ?_)
      rintro _ _ ⟨rfl, rfl⟩
      have hokk : okAt t s p i = holdsB (stAt t s p i) t.acts[k].pre := by rw [okAt, hk3]
      refine And.intro (fun h2 => ?_) fun h2 => ?_
      rotate_left
      · exact Exists.intro [112] (by rw [← hcs]; exact ⟨i, (i : Int), hI.1, hI.2, .inr ⟨hi, by rw [hokk, h2], rfl⟩, rfl, rfl⟩)
      refine SpecP.conv (conv_second fun _ _ _ _ => sT_vl) (SpecP.mono (f56_spec t (stAt t s p i).isEmpty (stAt t s p i) k TK hsi hk2 []) ?_)
      rintro _ _ ⟨rfl, rfl⟩
      have hst : stAt t s p (i + 1) = afterL t.facts.length (stAt t s p i) t.acts[k].effs := by rw [stAt, hk3]
      have hrow : stRows t s p i ++ [[sT (afterL t.facts.length (stAt t s p i) t.acts[k].effs)]] = stRows t s p (i + 1) := by rw [stRows_step, hst]
      have hl2 : (stRows t s p i ++ [[sT (afterL t.facts.length (stAt t s p i) t.acts[k].effs)]]).length = i + 2 := by rw [hrow, stRows_len]
      refine And.intro (Nat.le_of_ble_eq_true rfl) (And.intro rfl (And.intro (by show (stRows t s p i ++ [[sT (afterL t.facts.length (stAt t s p i) t.acts[k].effs)]]).length * 24 ≤ _; omega) (And.intro (by show (stRows t s p i ++ [[sT (afterL t.facts.length (stAt t s p i) t.acts[k].effs)]]).length ≤ _; omega) ?_)))
      refine And.intro (by omega) (Exists.intro _ (And.intro (get_map hk2) ?_))
      refine And.intro (by omega) (And.intro (by omega) ?_)
      refine And.intro (by omega) (And.intro (by omega) ?_)
      refine Exists.intro (i + 1) (And.intro (by show p.length - (i + 1) < p.length - i; omega) (And.intro ⟨hi, fun j hj => ?_⟩ ?_))
      · rcases Nat.lt_or_ge j i with h | h
        · exact hI.2 j h
        · rw [show j = i by omega, hokk, h2]
      · have hcost : costAt t p (i + 1) = costAt t p i + t.acts[k].cost := by rw [costAt, hk3]
        simp only [hcost, ← hrow]
        exact And.intro rfl rfl
    · have hi : i = p.length := by have := hI.1; have := ge_of_dec h1; omega
      exact Exists.intro [112] (by rw [← hcs]; exact ⟨i, -1, hI.1, hI.2, .inl ⟨hi, rfl⟩, rfl, rfl⟩)

def od20 : Od := [(4, [(0, .pure), (1, .pure), (2, .pure), (3, .pure), (4, .pure), (5, .pure), (6, .pure), (7, .pure), (8, .pure), (9, .pure), (10, .pure), (11, .eff), (12, .pure), (13, .pure)])]
theorem f20_spec (t : Task) (n1 n2 : Bool) (s p : List Int) (TK : TaskOK t) (hs : risingB s t.facts.length = true) (out : List Fr) :
    SpecP Try.prog 20 [.task t, .ints n1 s, .ints n2 p] out fun r ro => (¬ Valid t s p ∧ r = .tup [.int 0, .bool false] ∧ ro = []) ∨ (Valid t s p ∧ r = .tup [.int (costAt t p p.length), .bool true] ∧ ro = []) := by
  refine spec_body cx_ok [] od20 (fn := Try.f20) (by kernel_rfl) rfl (by kernel_rfl) rfl (by unfold FnOK; kernel_rfl) fun hok => ?_
  refine SpecP.mono (f51_spec t n2 p []) ?_
  rintro _ _ ⟨rfl, rfl⟩
  refine And.intro (fun hp => ?_) fun hp => ?_
  rotate_left
  · exact Exists.intro [] (.inl ⟨fun hv => (by rw [hv.plan] at hp; cases hp), rfl, rfl⟩)
  refine SpecP.mono (f52_spec t n1 n2 s p TK hs hp []) ?_
  rintro _ _ ⟨k, at_, hk, hok1, hor, rfl, rfl⟩
  have hpl : p.length ≤ 10000 := by simp only [planB, Bool.and_eq_true, decide_eq_true_eq] at hp; exact hp.1
  have hlen := stRows_len t s p k
  refine And.intro (fun h1 => ?_) fun h1 => ?_
  · have h1 := of_decide_eq_true h1
    rcases hor with ⟨_, rfl⟩ | ⟨hkl, hno, _⟩
    · omega
    · exact Exists.intro [] (.inl ⟨fun hv => (by rw [hv.ok k hkl] at hno; cases hno), rfl, rfl⟩)
  have h1 := of_decide_eq_false h1
  rcases hor with ⟨hkl, rfl⟩ | ⟨_, _, rfl⟩
  rotate_left
  · omega
  subst hkl
  refine And.intro (by omega) (And.intro (by omega) ?_)
  refine And.intro (by omega) (And.intro (by omega) (Exists.intro [sT (stAt t s p p.length)] (And.intro (by rw [show 0 + (((stRows t s p p.length).length : Int) - 1).toNat = p.length by omega]; exact stRows_get (Nat.le_refl _)) ?_)))
  refine SpecP.conv (conv_first fun _ _ _ _ => sT_vl) (SpecP.mono (f53_spec (stAt t s p p.length).isEmpty t.gn (stAt t s p p.length) t.goal []) ?_)
  rintro _ _ ⟨rfl, rfl⟩
  refine And.intro ⟨rfl, rfl, rfl⟩ ?_
  refine And.intro (fun h2 => ?_) fun h2 => ?_
  · exact Exists.intro [] (.inr ⟨⟨hp, hok1, h2⟩, rfl, rfl⟩)
  · exact Exists.intro [] (.inl ⟨fun hv => (by rw [hv.goal] at h2; cases h2), rfl, rfl⟩)

theorem f99_spec (n1 : Bool) (s : List Int) (hl : s.length ≤ 1000000000) (out : List Fr) : SpecP Try.prog 99 [.ints n1 s] out fun r ro => r = .ints n1 s ∧ ro = [] := by
  refine SpecP.nil_arg (i := 0) rfl (by unfold FnOK; kernel_rfl) fun hnil => ?_
  refine SpecP.close (Post := fun r ro => (n1 = true ∧ r = .t (.sl true 0 []) ∧ ro = []) ∨ (n1 = false ∧ r = .osl (.cur 40) 1 0 (s.map tI).length ∧ ro = [(40, .row 3 1 (s.map tI))])) ?_ ?_
  rotate_left
  · rintro r ro (⟨rfl, rfl, rfl⟩ | ⟨rfl, rfl, rfl⟩)
    · rw [hnil rfl]; exact ⟨_, .nil 0 1, rfl, rfl⟩
    · refine ⟨_, .row 40 3 1 0 _ (s.map tI) (by rw [look_cons, if_pos rfl]) (by simp), ?_, rfl⟩
      rw [← take_all]
  refine spec_body cx_ok [] [] (fn := Try.f99) (by kernel_rfl) rfl (by kernel_rfl) rfl (by unfold FnOK; kernel_rfl) fun hok => ?_
  have hsl : (s.map tI).length = s.length := List.length_map ..
  refine And.intro (fun h => ?_) fun h => ?_
  · exact Exists.intro [] (.inl ⟨h, rfl, rfl⟩)
  refine And.intro rfl (And.intro (by show (s.map tI).length * 8 ≤ _; omega) (And.intro (by show (s.map tI).length ≤ _; omega) ?_))
  exact Exists.intro [40] (.inr ⟨h, rfl, rfl⟩)

def kp95 : Kp := [(2, ([0, 1, 7, 8], []))]
theorem f95_spec (n1 : Bool) (l : List Int) (fc k s : Nat) (p : Int → Bool) (out : List Fr)
    (hc : ∀ x ∈ l, SpecP Try.prog fc [.int x, .ptr (.fr (k + 1) s) 0] ([] :: out) fun r ro => r = .bool (p x) ∧ ro = []) :
    SpecP Try.prog 95 [.ints n1 l, .fn fc [(.fr k s, 0)]] out fun r ro => ∃ j : Int, r = .int j ∧ decide (0 ≤ j) = l.any p ∧ ro = [] := by
  refine spec_body cx_ok kp95 [] (fn := Try.f95) (by kernel_rfl) rfl (by kernel_rfl) rfl (by unfold FnOK; kernel_rfl) fun hok => ?_
  have hmx := le_max hok.1.1
  refine LoopW.mk Nat (fun i => i ≤ l.length ∧ (l.take i).any p = false) (fun i => [(0, .ints n1 l), (1, .fn fc [(.fr k s, 0)]), (7, .int (l.map tI).length), (8, .int i)]) (fun _ => ⟨out, []⟩) (fun i => l.length - i) 0 ⟨Nat.zero_le _, rfl⟩ ⟨rfl, rfl⟩ fun i hI => ?_
  refine And.intro (fun h1 => ?_) fun h1 => ?_
  · have hi := lt_of_dec h1
    refine And.intro (by omega) (Exists.intro _ (And.intro (get_map hi) ?_))
    refine SpecP.mono (hc _ (List.getElem_mem hi)) ?_
    rintro _ _ ⟨rfl, rfl⟩
    refine And.intro trivial (And.intro trivial ?_)
    refine And.intro (fun h2 => ?_) fun h2 => ?_
    · exact Exists.intro [] ⟨_, rfl, by rw [any_true hi h2]; simp, rfl⟩
    · refine And.intro (by omega) (And.intro (by omega) ?_)
      exact Exists.intro (i + 1) (And.intro (by show l.length - (i + 1) < l.length - i; omega) (And.intro ⟨hi, any_step hi hI.2 h2⟩ (And.intro rfl rfl)))
  · exact Exists.intro [] ⟨_, rfl, by rw [any_end (ge_of_dec h1) hI.2]; rfl, rfl⟩
theorem f64_spec (n1 : Bool) (l : List Int) (fc k s : Nat) (p : Int → Bool) (out : List Fr)
    (hc : ∀ x ∈ l, SpecP Try.prog fc [.int x, .ptr (.fr (k + 2) s) 0] ([] :: [] :: out) fun r ro => r = .bool (p x) ∧ ro = []) :
    SpecP Try.prog 64 [.ints n1 l, .fn fc [(.fr k s, 0)]] out fun r ro => r = .bool (l.any p) ∧ ro = [] := by
  refine spec_body cx_ok [] [] (fn := Try.f64) (by kernel_rfl) rfl (by kernel_rfl) rfl (by unfold FnOK; kernel_rfl) fun hok => ?_
  refine SpecP.mono (f95_spec n1 l fc (k + 1) s p _ hc) ?_
  rintro _ _ ⟨j, rfl, hj, rfl⟩
  refine And.intro trivial (And.intro trivial ?_)
  refine And.intro (fun h => ?_) fun h => ?_
  · exact Exists.intro [] (ret_bool (by rw [← hj]; simpa using h) rfl)
  · exact Exists.intro [] (ret_bool (by rw [← hj]; simpa using h) rfl)
theorem f77_spec (t : Task) (x : Int) (fr0 fr1 fr2 : Fr) (out : List Fr) :
    SpecP Try.prog 77 [.int x, .ptr (.fr 2 16) 0] (fr0 :: fr1 :: ((16, .box (cellsTask t)) :: fr2) :: out) fun r ro => r = .bool (inA t x) ∧ ro = [] := by
  refine spec_body cx_ok [] [] (fn := Try.f77) (by kernel_rfl) rfl (by kernel_rfl) rfl (by unfold FnOK; kernel_rfl) fun hok => ?_
  refine And.intro (fun h1 => ?_) fun h1 => ?_
  · exact Exists.intro [] (ret_bool (by rw [inA, h1]; rfl) rfl)
  refine Exists.intro _ (And.intro rfl ?_)
  refine And.intro (fun h2 => ?_) fun h2 => ?_
  · exact Exists.intro [] (ret_bool (by rw [List.length_map] at h2; rw [inA, h1, h2]; rfl) rfl)
  · exact Exists.intro [] (ret_bool (by rw [List.length_map] at h2; rw [inA, h1, h2]; rfl) rfl)
theorem f40_spec (t : Task) (n2 : Bool) (p : List Int) (out : List Fr) : SpecP Try.prog 40 [.task t, .ints n2 p] out fun r ro => r = .bool (planB t p) ∧ ro = [] := by
  refine spec_body cx_ok [] [] (fn := Try.f40) (by kernel_rfl) rfl (by kernel_rfl) rfl (by unfold FnOK; kernel_rfl) fun hok => ?_
  refine And.intro (fun h1 => ?_) fun h1 => ?_
  · refine SpecP.mono (f64_spec n2 p 77 0 16 (inA t) _ (fun x _ => f77_spec t x [] [] [] out)) ?_
    rintro _ _ ⟨rfl, rfl⟩
    refine And.intro trivial (And.intro trivial ?_)
    rw [List.length_map] at h1
    have h1 := of_decide_eq_true h1
    refine And.intro (fun h => ?_) fun h => ?_
    · exact Exists.intro [] (ret_bool (by rw [planB_any, h]; simp) rfl)
    · exact Exists.intro [] (ret_bool (by rw [planB_any, h]; simp; omega) rfl)
  · rw [List.length_map] at h1
    have h1 := of_decide_eq_false h1
    exact Exists.intro [] (ret_bool (by rw [planB_any]; simp; omega) rfl)

theorem f100_spec (t : Task) (n1 n2 : Bool) (s p : List Int) (out : List Fr) : SpecP Try.prog 100 [.task t, .ints n1 s, .ints n2 p] out fun r ro =>
    r = .fn 110 [(.cur 40, 0), (.cur 32, 0), (.cur 24, 0)] ∧ ro = [(24, .box (cellsTask t)), (32, .box [.ints n1 s]), (40, .box [.ints n2 p])] := by
  refine spec_body cx_ok [] [] (fn := Try.f100) (by kernel_rfl) rfl (by kernel_rfl) rfl (by unfold FnOK; kernel_rfl) fun hok => ?_
  exact Exists.intro [24, 32, 40] ⟨rfl, rfl⟩

/-- How far a list of actions comes. -/
structure Ran (t : Task) (s p : List Int) (k : Nat) (at_ : Int) : Prop where
  le : k ≤ p.length
  ok : ∀ i, i < k → okAt t s p i = true
  stop : (k = p.length ∧ at_ = -1) ∨ (k < p.length ∧ okAt t s p k = false ∧ at_ = (k : Int))

def od110 : Od := [(3, [(0, .pure), (1, .pure), (2, .pure), (3, .pure), (4, .pure), (5, .pure), (6, .pure), (7, .eff), (8, .pure)]), (4, [(0, .pure), (1, .pure), (2, .pure), (3, .pure), (4, .pure), (5, .pure), (6, .eff), (7, .syn)])]
def kp110 : Kp := [(1, ([0, 2, 3, 7, 8, 9, 1000003, 1000005, 1000006, 1000008, 1000009], [24, 40, 48, 64, 72, 112, 153000483, 153000491]))]
def od78 : Od := [(6, [(0, .pure), (1, .pure), (2, .pure), (3, .eff), (4, .eff), (5, .syn), (6, .pure), (7, .syn)]), (7, [(0, .pure), (1, .pure), (2, .pure), (3, .pure), (4, .pure), (5, .pure), (6, .pure), (7, .pure), (8, .pure), (9, .pure), (10, .pure), (11, .pure), (12, .pure), (13, .syn)]), (9, [(0, .pure), (1, .pure), (2, .pure), (3, .pure), (4, .pure), (5, .pure), (6, .pure), (7, .pure), (8, .pure), (9, .pure), (10, .eff), (11, .pure), (12, .syn)]), (12, [(0, .tree (.pure 0 (.pure 1 (.last 2 (.pure 3 .done) [1]))))])]
def kp78 : Kp := []

theorem f78o_spec (t : Task) (n1 n2 : Bool) (s p : List Int) (TK : TaskOK t) (hs : risingB s t.facts.length = true) (hp : planB t p = true) (out : List Fr) :
    SpecP Try.prog 78 [.task t, .ints n1 s, .ints n2 p] out fun r ro => ∃ (k : Nat) (at_ : Int), Ran t s p k at_ ∧
      r = .tup [.agg [.osl (.cur 112) 1 0 (stTs n1 t s p k).length, .int (costAt t p k), .bool (holdsB (stAt t s p k) t.goal)], .int at_] ∧ ro = [(112, .row 40 1 (stTs n1 t s p k))] := by
  refine spec_range cx_ok kp78 od78 kp110 od110 (fn := Try.f78) (by kernel_rfl) rfl (by kernel_rfl) rfl (by unfold FnOK; kernel_rfl) fun hok => ?_
  have hin := rising_in hs
  have hN := TK.facts
  have hsl := rising_len hs (by omega)
  have hpl : p.length ≤ 10000 := by simp only [planB, Bool.and_eq_true, decide_eq_true_eq] at hp; exact hp.1
  refine SpecP.mono (f99_spec n1 s hsl []) ?_
  rintro _ _ ⟨rfl, rfl⟩
  refine SpecP.mono (f100_spec t n1 n2 s p []) ?_
  rintro _ _ ⟨rfl, rfl⟩
  refine ⟨Try.f110, _, rfl, rfl, rfl, by unfold FnOK; kernel_rfl, by kernel_rfl, fun l => ?_⟩
  refine LoopW.mk Nat (fun i => i ≤ p.length ∧ ∀ j, j < i → okAt t s p j = true)
    (fun i => [(0, .t (.v (.func (.yield l) #[] #[]))), (2, .ptr (.cur 153000491) 0), (3, .ptr (.cur 153000483) 0), (7, .ints n2 p), (8, .int (p.map tI).length), (9, .int i),
      (1000003, .ptr (.cur 24) 0), (1000005, .ptr (.cur 40) 0), (1000006, .ptr (.cur 48) 0), (1000008, .ptr (.cur 64) 0), (1000009, .ptr (.cur 72) 0)])
    (fun i => ⟨out, [(24, .box (cellsTask t)), (40, .box [.ints n2 p]), (48, .box [.t (.sl true 0 []), .int 0, .bool false]), (64, .box [.osl (.cur 112) 1 0 (stTs n1 t s p i).length, .int (costAt t p i), .bool false]), (72, .box [.int i]),
      (112, .row 40 1 (stTs n1 t s p i)), (153000483, .box (cellsTask t)), (153000491, .box [.ints (stN n1 t s p i) (stAt t s p i)])]⟩) (fun i => p.length - i) 0 ⟨Nat.zero_le _, fun j hj => by omega⟩ ⟨rfl, rfl⟩ fun i hI => ?_
  have hsi := st_rising (t := t) (p := p) hs i
  have hsil := rising_len hsi (by omega)
  have hlen := stTs_len n1 t s p i
  refine And.intro (fun h1 => ?_) fun h1 => ?_
  · have hi := lt_of_dec h1
    obtain ⟨k, hk1, hk2, hk3, _⟩ := plan_get hp hi
    have hci := costAt_in TK hp i hI.1
    have hc := TK.cost _ (List.getElem_mem hk2)
    have hmem : t.acts[k] ∈ t.acts := List.getElem_mem hk2
    have hE := TK.effs _ hmem
    have hokk : okAt t s p i = holdsB (stAt t s p i) t.acts[k].pre := by rw [okAt, hk3]
    refine And.intro (by omega) (Exists.intro (tI k) (And.intro (by rw [← hk1]; exact get_map hi) ?_))
    refine And.intro (by omega) (Exists.intro _ (And.intro (get_map hk2) ?_))
    refine SpecP.mono (f61_spec (stN n1 t s p i) t.acts[k].pn (stAt t s p i) t.acts[k].pre t.facts.length hsi (by omega) []) ?_
    rintro _ _ ⟨rfl, rfl⟩
    refine And.intro ⟨rfl, rfl, rfl⟩ ?_
    refine And.intro (fun h2 => ?_) fun h2 => ?_
    · refine And.intro (by omega) (Exists.intro _ (And.intro (get_map hk2) ?_))
      refine SpecP.mono (f63i_spec (stN n1 t s p i) (stAt t s p i) t.acts[k] t.facts.length hsi (by omega) (TK.lit _ hmem) (by omega) []) ?_
      rintro _ _ ⟨rfl, rfl⟩
      refine And.intro ⟨rfl, rfl, rfl⟩ ?_
      refine ⟨rfl, rfl, ?_⟩
      have hst : stAt t s p (i + 1) = afterL t.facts.length (stAt t s p i) t.acts[k].effs := by rw [stAt, hk3]
      rw [← hst]
      have hsj := st_rising (t := t) (p := p) hs (i + 1)
      have hsjl := rising_len hsj (by omega)
      refine SpecP.mono (f99_spec (stAt t s p (i + 1)).isEmpty (stAt t s p (i + 1)) hsjl []) ?_
      rintro _ _ ⟨rfl, rfl⟩
      refine And.intro ⟨rfl, rfl, rfl⟩ ?_
      have hrow : stTs n1 t s p i ++ [[tIs (stAt t s p (i + 1)).isEmpty (stAt t s p (i + 1))]] = stTs n1 t s p (i + 1) := by rw [stTs_step]; rfl
      have hl2 : (stTs n1 t s p i ++ [[tIs (stAt t s p (i + 1)).isEmpty (stAt t s p (i + 1))]]).length = i + 2 := by rw [hrow, stTs_len]
      refine And.intro (Nat.le_of_ble_eq_true rfl) (And.intro rfl (And.intro (by show (stTs n1 t s p i ++ [[tIs (stAt t s p (i + 1)).isEmpty (stAt t s p (i + 1))]]).length * 24 ≤ _; omega) (And.intro (by show (stTs n1 t s p i ++ [[tIs (stAt t s p (i + 1)).isEmpty (stAt t s p (i + 1))]]).length ≤ _; omega) ?_)))
      refine And.intro (by omega) (Exists.intro (tI k) (And.intro (by rw [← hk1]; exact get_map hi) ?_))
      refine And.intro (by omega) (Exists.intro _ (And.intro (get_map hk2) ?_))
      refine And.intro (by omega) (And.intro (by omega) ?_)
      refine And.intro (by omega) (And.intro (by omega) ?_)
      refine And.intro (fun _ => ?_) fun h => Bool.noConfusion h
      refine And.intro (by omega) (And.intro (by omega) ?_)
      refine Exists.intro (i + 1) (And.intro (by show p.length - (i + 1) < p.length - i; omega) (And.intro ⟨hi, fun j hj => ?_⟩ ?_))
      · rcases Nat.lt_or_ge j i with h | h
        · exact hI.2 j h
        · rw [show j = i by omega, hokk, h2]
      · have hcost : costAt t p (i + 1) = costAt t p i + t.acts[k].cost := by rw [costAt, hk3]
        simp only [hcost, ← hrow]
        exact And.intro rfl rfl
    refine And.intro (by omega) (And.intro (by omega) ?_)
    refine And.intro (by omega) (And.intro (by omega) (Exists.intro [tIs (stN n1 t s p i) (stAt t s p i)] (And.intro (by rw [show 0 + (((stTs n1 t s p i).length : Int) - 1).toNat = i by omega]; exact stTs_get (Nat.le_refl i)) ?_)))
    refine SpecP.mono (f61_spec (stN n1 t s p i) t.gn (stAt t s p i) t.goal t.facts.length hsi (by omega) []) ?_
    rintro _ _ ⟨rfl, rfl⟩
    refine And.intro ⟨rfl, rfl, rfl⟩ ?_
    refine And.intro (fun h3 => ?_) fun h3 => ?_
    all_goals
      refine And.intro (fun h4 => ?_) fun h4 => ?_
      · have h4 := of_decide_eq_true h4
        rw [List.length_map] at h4
        omega
      · refine And.intro rfl ?_
        exact Exists.intro [112] ⟨i, (i : Int), ⟨hI.1, hI.2, .inr ⟨hi, by rw [hokk, h2], rfl⟩⟩, by rw [h3]; rfl, rfl⟩
  · have hi : i = p.length := by have := hI.1; have := ge_of_dec h1; omega
    refine And.intro (by omega) (And.intro (by omega) ?_)
    refine And.intro (by omega) (And.intro (by omega) (Exists.intro [tIs (stN n1 t s p i) (stAt t s p i)] (And.intro (by rw [show 0 + (((stTs n1 t s p i).length : Int) - 1).toNat = i by omega]; exact stTs_get (Nat.le_refl i)) ?_)))
    refine SpecP.mono (f61_spec (stN n1 t s p i) t.gn (stAt t s p i) t.goal t.facts.length hsi (by omega) []) ?_
    rintro _ _ ⟨rfl, rfl⟩
    refine And.intro ⟨rfl, rfl, rfl⟩ ?_
    refine And.intro (fun h3 => ?_) fun h3 => ?_
    all_goals
      refine And.intro (fun h4 => ?_) fun h4 => ?_
      · refine And.intro rfl ?_
        exact Exists.intro [112] ⟨i, -1, ⟨hI.1, hI.2, .inl ⟨hi, rfl⟩⟩, by rw [h3]; rfl, rfl⟩
      · have h4 := of_decide_eq_false h4
        rw [List.length_map] at h4
        omega

def runV (n1 : Bool) (t : Task) (s p : List Int) (k : Nat) : LV := .agg [.t (.sl false 1 (stTs n1 t s p k)), .int (costAt t p k), .bool (holdsB (stAt t s p k) t.goal)]
theorem f78_spec (t : Task) (n1 n2 : Bool) (s p : List Int) (TK : TaskOK t) (hs : risingB s t.facts.length = true) (hp : planB t p = true) (out : List Fr) :
    SpecP Try.prog 78 [.task t, .ints n1 s, .ints n2 p] out fun r ro => ∃ (k : Nat) (at_ : Int), Ran t s p k at_ ∧ r = .tup [runV n1 t s p k, .int at_] ∧ ro = [] :=
  (f78o_spec t n1 n2 s p TK hs hp out).close fun r ro h => by
    obtain ⟨k, at_, hr, rfl, rfl⟩ := h
    refine ⟨_, .pair _ _ _ _ (.agg _ [.t (.sl false 1 (stTs n1 t s p k)), .int (costAt t p k), .bool (holdsB (stAt t s p k) t.goal)] rfl fun i x y hx hy => ?_) (.same _), k, at_, hr, rfl, rfl⟩
    match i with
    | 0 =>
      simp at hx hy; subst hx hy
      have h := ClsV.row (ro := [(112, Ob.row 40 1 (stTs n1 t s p k))]) 112 40 1 0 (stTs n1 t s p k).length (stTs n1 t s p k) rfl (by simp)
      rwa [← take_all] at h
    | 1 => simp at hx hy; subst hx hy; exact .same _
    | 2 => simp at hx hy; subst hx hy; exact .same _
    | i + 3 => simp at hx
theorem ran_eq {t : Task} {s p : List Int} {k k' : Nat} {a a' : Int} (h : Ran t s p k a) (h' : Ran t s p k' a') : k = k' ∧ a = a' := by
  have key : ∀ {k k' : Nat} {a a' : Int}, Ran t s p k a → Ran t s p k' a' → k ≤ k' := fun {k k' a a'} h h' => by
    rcases Nat.lt_or_ge k' k with hlt | hge
    · have h1 := h.ok k' hlt
      rcases h'.stop with ⟨h2, _⟩ | ⟨_, h2, _⟩
      · have := h.le; omega
      · rw [h1] at h2; cases h2
    · exact hge
  have hk : k = k' := Nat.le_antisymm (key h h') (key h' h)
  refine ⟨hk, ?_⟩
  rcases h.stop with ⟨h1, h2⟩ | ⟨h1, _, h2⟩ <;> rcases h'.stop with ⟨h3, h4⟩ | ⟨h3, _, h4⟩ <;> omega

inductive Costed (t : Task) (s p : List Int) : LV → Prop
  | no (h : ¬ Valid t s p) : Costed t s p (.tup [.int 0, .bool false])
  | yes (h : Valid t s p) : Costed t s p (.tup [.int (costAt t p p.length), .bool true])
theorem f41_spec (t : Task) (n1 n2 : Bool) (s p : List Int) (TK : TaskOK t) (hs : risingB s t.facts.length = true) (hp : planB t p = true) (out : List Fr) :
    SpecP Try.prog 41 [.task t, .ints n1 s, .ints n2 p] out fun r ro => Costed t s p r ∧ ro = [] := by
  refine spec_body cx_ok [] [] (fn := Try.f41) (by kernel_rfl) rfl (by kernel_rfl) rfl (by unfold FnOK; kernel_rfl) fun hok => ?_
  refine SpecP.mono (f78_spec t n1 n2 s p TK hs hp []) ?_
  rintro _ _ ⟨k, at_, hr, rfl, rfl⟩
  refine And.intro (fun h1 => ?_) fun h1 => ?_
  · have h1 := of_decide_eq_true h1
    rcases hr.stop with ⟨_, h2⟩ | ⟨h2, h3, _⟩
    · omega
    · exact Exists.intro [] ⟨.no fun hv => (by rw [hv.ok k h2] at h3; cases h3), rfl⟩
  have h1 := of_decide_eq_false h1
  rcases hr.stop with ⟨rfl, h2⟩ | ⟨_, _, h2⟩
  rotate_left
  · omega
  refine And.intro (fun h3 => ?_) fun h3 => ?_
  · exact Exists.intro [] ⟨.yes ⟨hp, hr.ok, h3⟩, rfl⟩
  · exact Exists.intro [] ⟨.no fun hv => (by rw [hv.goal] at h3; cases h3), rfl⟩

theorem init_rising {t : Task} (h : isB t = true) : risingB t.init t.facts.length = true := by
  simp only [isB, Bool.and_eq_true] at h
  exact h.1.1.1.1.2

end Go.Fw

/- The coder of clauses: how variables are numbered. -/
namespace Go.Fw
open Go Go.Proofs
set_option maxRecDepth 10000

/-! ### The layout of a model -/
def effsOf (t : Task) : List Eff := t.acts.flatMap (·.effs)
def wdt (t : Task) : Nat := t.facts.length + t.acts.length + (effsOf t).length
/-- How many effects the actions ahead of one have. -/
def bef (t : Task) (a : Nat) : Nat := ((t.acts.take a).flatMap (·.effs)).length
theorem bef_step {t : Task} {a : Nat} (h : a < t.acts.length) : bef t (a + 1) = bef t a + t.acts[a].effs.length := by
  rw [bef, List.take_add_one, List.getElem?_eq_getElem h, Option.toList_some, List.flatMap_append, List.length_append]; simp [bef]
theorem bef_all (t : Task) : bef t t.acts.length = (effsOf t).length := by rw [bef, List.take_length]; rfl
theorem bef_mono {t : Task} {a b : Nat} (h : a ≤ b) (hb : b ≤ t.acts.length) : bef t a ≤ bef t b := by
  induction b with
  | zero => have : a = 0 := by omega
            subst this; exact Nat.le_refl _
  | succ b ih =>
    rcases Nat.lt_or_ge a (b + 1) with h1 | h1
    · have := ih (by omega) (by omega)
      rw [bef_step (by omega)]; omega
    · rw [show a = b + 1 by omega]; exact Nat.le_refl _
theorem effs_le {t : Task} (TK : TaskOK t) : (effsOf t).length ≤ 100 * t.acts.length := by
  rw [← bef_all]
  have : ∀ a, a ≤ t.acts.length → bef t a ≤ 100 * a := by
    intro a
    induction a with
    | zero => intro _; simp [bef]
    | succ a ih =>
      intro h
      have := TK.effs _ (List.getElem_mem (show a < t.acts.length by omega))
      rw [bef_step (by omega)]
      have := ih (by omega)
      omega
  exact this _ (Nat.le_refl _)

/-- The coder. -/
def befL (t : Task) (k : Nat) : List Int := (List.range k).map fun a => (bef t a : Int)
theorem befL_step (t : Task) (k : Nat) : befL t (k + 1) = befL t k ++ [(bef t k : Int)] := by rw [befL, List.range_succ, List.map_append]; rfl
theorem befL_len (t : Task) (k : Nat) : (befL t k).length = k := by simp [befL]
theorem befL_get {t : Task} {k a : Nat} (h : a < k) : (befL t k)[a]? = some (bef t a : Int) := by simp [befL, h]
abbrev cellsT (t : Task) : List LV := [.t (.sl t.fn 1 (t.facts.map tS)), .t (.sl t.ni 1 (t.init.map tI)), .t (.sl t.gn 2 (t.goal.map tLit)), .t (.sl t.an 4 (t.acts.map tAct))]

abbrev coderC (t : Task) (n w : Int) (x y : LV) : List LV := [.t (.sl t.fn 1 (t.facts.map tS)), .t (.sl t.ni 1 (t.init.map tI)), .t (.sl t.gn 2 (t.goal.map tLit)), .t (.sl t.an 4 (t.acts.map tAct)), .int n, .int w, x, y]
def kq42 : Kp := [(4, ([2, 5, 6, 14, 15, 16], [16, 96, 216]))]
theorem f42_spec (t : Task) (n : Int) (TK : TaskOK t) (out : List Fr) : SpecP Try.prog 42 [.task t, .int n] out fun r ro => r = .ptr (.cur 96) 0 ∧
    ro = (96, .box (coderC t n (wdt t) (accV 216 1 ((befL t t.acts.length).map tI)) (.t (.sl true 0 [])))) :: accO 216 3 1 ((befL t t.acts.length).map tI) := by
  have hA := TK.acts
  have hF := TK.facts
  refine spec_body cx_ok kq42 [] (fn := Try.f42) (by kernel_rfl) rfl (by kernel_rfl) rfl (by unfold FnOK; kernel_rfl) fun hok => ?_
  refine LoopW.mk (Nat × List Int) (fun u => u.1 ≤ t.acts.length ∧ u.2 = befL t u.1) (fun u => [(2, .ptr (.cur 16) 0), (5, .ptr (.cur 96) 0), (6, .int (bef t u.1)), (14, .t (.sl t.an 4 (t.acts.map tAct))), (15, .int (t.acts.map tAct).length), (16, .int u.1)])
    (fun u => ⟨out, (16, .box (cellsTask t)) :: (96, .box (coderC t n 0 (accV 216 1 (u.2.map tI)) (.t (.sl true 0 [])))) :: accO 216 3 1 (u.2.map tI)⟩) (fun u => t.acts.length - u.1) (0, []) ⟨Nat.zero_le _, rfl⟩ ⟨rfl, rfl⟩ ?_
  rintro ⟨i, L⟩ ⟨hi0, hL⟩
  simp only at hi0 hL
  cases L
  case' nil => let O : List Int := []
  case' cons y r => let O : List Int := y :: r
  all_goals
    have hbl := effs_le TK
    have hLl : O.length = i := by show O.length = i; rw [show O = befL t i from hL, befL_len]
    refine And.intro (fun h1 => ?_) fun h1 => ?_
    · have hi : i < t.acts.length := lt_of_dec h1
      have hE := TK.effs _ (List.getElem_mem hi)
      have hb1 := bef_mono (t := t) (a := i) (b := t.acts.length) hi0 (Nat.le_refl _)
      rw [bef_all] at hb1
      have stp : befL t (i + 1) = O ++ [(bef t i : Int)] := by rw [befL_step, ← hL]
      refine And.intro (by show (0 : Int) ≤ (i : Int); omega) (Exists.intro _ (And.intro (get_map hi) ?_))
      have hl4 : ∀ X : List T, ((O.map tI) ++ [X]).length ≤ 1000000001 := fun X => by
        rw [List.length_append, List.length_map, List.length_singleton, hLl]; omega
      repeat first
        | refine And.intro (Nat.le_of_ble_eq_true rfl) ?_
        | refine And.intro rfl ?_
        | refine And.intro (Nat.le_trans (Nat.mul_le_mul_right _ (hl4 _)) (Nat.le_of_ble_eq_true rfl)) ?_
        | refine And.intro (Nat.le_trans (hl4 _) (Nat.le_of_ble_eq_true rfl)) ?_
      have e1 : (t.acts[i].effs.map tEff).length = t.acts[i].effs.length := List.length_map ..
      have hbs := bef_step hi
      refine And.intro (by first | omega | (dsimp only; omega)) (And.intro (by first | omega | (dsimp only; omega)) (And.intro (by first | omega | (dsimp only; omega)) (And.intro (by first | omega | (dsimp only; omega)) ?_)))
      have hbI : ((bef t (i + 1) : Nat) : Int) = (bef t i : Int) + ((t.acts[i].effs.map tEff).length : Int) := by omega
      first
        | (refine Exists.intro (i + 1, [(bef t i : Int)]) (And.intro (by show t.acts.length - (i + 1) < t.acts.length - i; omega) (And.intro ⟨hi, stp.symm⟩ ?_))
           simp only [hbI]
           exact And.intro rfl rfl)
        | (refine Exists.intro (i + 1, y :: (r ++ [(bef t i : Int)])) (And.intro (by show t.acts.length - (i + 1) < t.acts.length - i; omega) (And.intro ⟨hi, stp.symm⟩ ?_))
           have e : (r ++ [(bef t i : Int)]).map tI = r.map tI ++ [tI (bef t i : Int)] := by simp
           simp only [List.map_cons, e, hbI]
           exact And.intro rfl rfl)
    · have hi : i = t.acts.length := by have := ge_of_dec h1; have : i ≤ t.acts.length := hi0; omega
      have e1 : (t.facts.map tS).length = t.facts.length := List.length_map ..
      have e2 : (t.acts.map tAct).length = t.acts.length := List.length_map ..
      have e3 : bef t i = (effsOf t).length := by rw [hi, bef_all]
      refine And.intro (by first | omega | (dsimp only; omega)) (And.intro (by first | omega | (dsimp only; omega)) (And.intro (by first | omega | (dsimp only; omega)) (And.intro (by first | omega | (dsimp only; omega)) ?_)))
      refine Exists.intro [96, 216] ⟨rfl, ?_⟩
      have hL' : O = befL t t.acts.length := by rw [← hi]; exact hL
      rw [← hL']
      have hw : ((wdt t : Nat) : Int) = (t.facts.length : Int) + (t.acts.length : Int) + ((effsOf t).length : Int) := by unfold wdt; omega
      rw [hw, ← e3, ← e1, ← e2]; rfl

end Go.Fw

/- The coder of clauses: variables. -/
namespace Go.Fw
open Go Go.Proofs
set_option maxRecDepth 10000

def od43 : Od := [(1, [(0, .pure), (1, .pure), (2, .pure), (3, .pure), (4, .pure), (5, .pure), (6, .pure), (7, .pure), (8, .pure), (9, .pure), (10, .pure), (11, .pure), (12, .pure), (13, .pure), (14, .pure), (15, .pure), (16, .pure)])]
theorem f43_spec (t : Task) (n w : Int) (x y : LV) (k : Nat) (fr : Fr) (h : look fr k = some (.box (coderC t n w x y))) (hF : t.facts.length ≤ 200) (hn : 0 ≤ n ∧ n ≤ 1000) (hw : 0 ≤ w ∧ w ≤ 1000000) (out : List Fr) :
    SpecP Try.prog 43 [.ptr (.fr 0 k) 0] (fr :: out) fun r ro => r = .int (n * w + t.facts.length) ∧ ro = [] := by
  refine spec_body cx_ok [] od43 (fn := Try.f43) (by kernel_rfl) rfl (by kernel_rfl) rfl (by unfold FnOK; kernel_rfl) fun hok => ?_
  have hm : 0 ≤ n * w ∧ n * w ≤ 1000000000 := ⟨Int.mul_nonneg hn.1 hw.1, by
    have h1 := Int.mul_le_mul hn.2 hw.2 hw.1 (by omega); omega⟩
  refine Exists.intro _ (And.intro (St.get_fr (fr := fr) rfl h) ?_)
  refine Exists.intro _ (And.intro (St.get_fr (fr := fr) rfl h) ?_)
  refine And.intro (by omega) (And.intro (by omega) ?_)
  refine Exists.intro _ (And.intro (St.get_fr (fr := fr) rfl h) ?_)
  have e1 : (t.facts.map tS).length = t.facts.length := List.length_map ..
  refine And.intro (by omega) (And.intro (by omega) ?_)
  exact Exists.intro [] ⟨by rw [← e1]; rfl, rfl⟩

def od46 : Od := [(1, [(0, .pure), (1, .pure), (2, .pure), (3, .pure), (4, .pure), (5, .pure), (6, .pure), (7, .pure), (8, .pure), (9, .pure), (10, .pure), (11, .pure), (12, .pure), (13, .pure), (14, .pure), (15, .pure), (16, .pure)])]
theorem f79_spec (t : Task) (n w : Int) (x y : LV) (k : Nat) (fr : Fr) (h : look fr k = some (.box (coderC t n w x y))) (i f : Int) (hi : 0 ≤ i ∧ i ≤ 1000) (hf : 0 ≤ f ∧ f ≤ 1000) (hw : 0 ≤ w ∧ w ≤ 1000000) (out : List Fr) :
    SpecP Try.prog 79 [.ptr (.fr 0 k) 0, .int i, .int f] (fr :: out) fun r ro => r = .int (i * w + 1 + f) ∧ ro = [] := by
  refine spec_body cx_ok [] [] (fn := Try.f79) (by kernel_rfl) rfl (by kernel_rfl) rfl (by unfold FnOK; kernel_rfl) fun hok => ?_
  have hm : 0 ≤ i * w ∧ i * w ≤ 1000000000 := ⟨Int.mul_nonneg hi.1 hw.1, by
    have h1 := Int.mul_le_mul hi.2 hw.2 hw.1 (by omega); omega⟩
  refine Exists.intro _ (And.intro (St.get_fr (fr := fr) rfl h) ?_)
  refine And.intro (by omega) (And.intro (by omega) (And.intro (by omega) (And.intro (by omega) (And.intro (by omega) (And.intro (by omega) ?_)))))
  exact Exists.intro [] ⟨rfl, rfl⟩
theorem f46_spec (t : Task) (n w : Int) (x y : LV) (k : Nat) (fr : Fr) (h : look fr k = some (.box (coderC t n w x y))) (hF : t.facts.length ≤ 200) (i a : Int) (hi : 0 ≤ i ∧ i ≤ 1000) (ha : 0 ≤ a ∧ a ≤ 1000) (hw : 0 ≤ w ∧ w ≤ 1000000) (out : List Fr) :
    SpecP Try.prog 46 [.ptr (.fr 0 k) 0, .int i, .int a] (fr :: out) fun r ro => r = .int (i * w + t.facts.length + 1 + a) ∧ ro = [] := by
  refine spec_body cx_ok [] od46 (fn := Try.f46) (by kernel_rfl) rfl (by kernel_rfl) rfl (by unfold FnOK; kernel_rfl) fun hok => ?_
  have hm : 0 ≤ i * w ∧ i * w ≤ 1000000000 := ⟨Int.mul_nonneg hi.1 hw.1, by
    have h1 := Int.mul_le_mul hi.2 hw.2 hw.1 (by omega); omega⟩
  have e1 : (t.facts.map tS).length = t.facts.length := List.length_map ..
  refine Exists.intro _ (And.intro (St.get_fr (fr := fr) rfl h) ?_)
  refine And.intro (by omega) (And.intro (by omega) ?_)
  refine Exists.intro _ (And.intro (St.get_fr (fr := fr) rfl h) ?_)
  refine And.intro (by omega) (And.intro (by omega) (And.intro (by omega) (And.intro (by omega) (And.intro (by omega) (And.intro (by omega) ?_)))))
  exact Exists.intro [] ⟨by rw [← e1]; rfl, rfl⟩
def od80 : Od := [(1, [(0, .pure), (1, .pure), (2, .pure), (3, .pure), (4, .pure), (5, .pure), (6, .pure), (7, .pure), (8, .pure), (9, .pure), (10, .pure), (11, .pure), (12, .pure), (13, .pure), (14, .pure), (15, .pure), (16, .pure), (17, .pure), (18, .pure), (19, .pure), (20, .pure), (21, .pure), (22, .pure), (23, .pure), (24, .pure), (25, .pure), (26, .pure), (27, .pure), (28, .pure), (29, .pure), (30, .pure), (31, .pure)])]
theorem f80_spec (t : Task) (n w : Int) (y : LV) (k σ : Nat) (L : List Int) (fr : Fr) (h : look fr k = some (.box (coderC t n w (.osl (.cur σ) 1 0 (L.map tI).length) y))) (h2 : look fr σ = some (.row 3 1 (L.map tI)))
    (hF : t.facts.length ≤ 200) (hA : t.acts.length ≤ 1000) (i e : Int) (a : Nat) (b : Int) (hb : L[a]? = some b) (hb2 : 0 ≤ b ∧ b ≤ 1000000) (hi : 0 ≤ i ∧ i ≤ 1000) (he : 0 ≤ e ∧ e ≤ 1000) (hw : 0 ≤ w ∧ w ≤ 1000000) (out : List Fr) :
    SpecP Try.prog 80 [.ptr (.fr 0 k) 0, .int i, .int a, .int e] (fr :: out) fun r ro => r = .int (i * w + t.facts.length + t.acts.length + 1 + b + e) ∧ ro = [] := by
  refine spec_body cx_ok [] od80 (fn := Try.f80) (by kernel_rfl) rfl (by kernel_rfl) rfl (by unfold FnOK; kernel_rfl) fun hok => ?_
  have hm : 0 ≤ i * w ∧ i * w ≤ 1000000000 := ⟨Int.mul_nonneg hi.1 hw.1, by
    have h1 := Int.mul_le_mul hi.2 hw.2 hw.1 (by omega); omega⟩
  have e1 : (t.facts.map tS).length = t.facts.length := List.length_map ..
  have e2 : (t.acts.map tAct).length = t.acts.length := List.length_map ..
  have hal : a < (L.map tI).length := by have := (List.getElem?_eq_some_iff.1 hb).1; simpa using this
  refine Exists.intro _ (And.intro (St.get_fr (fr := fr) rfl h) ?_)
  refine And.intro (by omega) (And.intro (by omega) ?_)
  refine Exists.intro _ (And.intro (St.get_fr (fr := fr) rfl h) ?_)
  refine And.intro (by omega) (And.intro (by omega) ?_)
  refine Exists.intro _ (And.intro (St.get_fr (fr := fr) rfl h) ?_)
  refine And.intro (by omega) (And.intro (by omega) (And.intro (by omega) (And.intro (by omega) ?_)))
  refine Exists.intro _ (And.intro (St.get_fr (fr := fr) rfl h) ?_)
  refine And.intro (by omega) (And.intro (by omega) ?_)
  refine Exists.intro _ (And.intro (St.get_fr (fr := fr) rfl h2) ?_)
  refine Exists.intro (tI b) (And.intro (by rw [Nat.zero_add, Int.toNat_natCast, List.getElem?_map, hb]; rfl) ?_)
  refine And.intro (by omega) (And.intro (by omega) (And.intro (by omega) (And.intro (by omega) ?_)))
  exact Exists.intro [] ⟨by rw [← e1, ← e2]; rfl, rfl⟩
end Go.Fw

/- The model of a plan: the plain list, and how it is filled in. -/
namespace Go.Fw
open Go Go.Proofs
set_option maxRecDepth 10000

def actsL (n : Nat) (a : Int) : List Bool := (List.range n).map fun (i : Nat) => ((i : Int) == a)
def whenL (s : List Int) (l : List Eff) : List Bool := l.map fun e => holdsB s e.when_
def rowL (t : Task) (s : List Int) (a : Int) : List Bool := bitsL t.facts.length s ++ (actsL t.acts.length a ++ whenL s (effsOf t))
def modL (t : Task) (p : List Int) : Nat → List Bool
  | 0 => []
  | k + 1 => modL t p k ++ rowL t (stAt t t.init p k) (p.getD k 0)
def modelOf (t : Task) (p : List Int) : List Bool := modL t p p.length ++ bitsL t.facts.length (stAt t t.init p p.length)
theorem actsL_len (n : Nat) (a : Int) : (actsL n a).length = n := by simp [actsL]
theorem whenL_len (s : List Int) (l : List Eff) : (whenL s l).length = l.length := by simp [whenL]
theorem rowL_len (t : Task) (s : List Int) (a : Int) : (rowL t s a).length = wdt t := by simp [rowL, bitsL_length, actsL_len, whenL_len, wdt]; omega
theorem modL_len (t : Task) (p : List Int) : ∀ k, (modL t p k).length = k * wdt t
  | 0 => by simp [modL]
  | k + 1 => by rw [modL, List.length_append, modL_len, rowL_len, Nat.add_mul, Nat.one_mul]
theorem modelOf_len (t : Task) (p : List Int) : (modelOf t p).length = p.length * wdt t + t.facts.length := by rw [modelOf, List.length_append, modL_len, bitsL_length]

theorem set_mid {α : Type} {A B C : List α} {k : Nat} {b : α} (h : k < B.length) : (A ++ (B ++ C)).set (A.length + k) b = A ++ (B.set k b ++ C) := by
  rw [List.set_append_right _ _ (by omega), Nat.add_sub_cancel_left, List.set_append_left _ _ h]
theorem rep_split {α : Type} {x : α} {n m : Nat} (h : m ≤ n) : List.replicate n x = List.replicate m x ++ List.replicate (n - m) x := by
  rw [List.replicate_append_replicate]; congr 1; omega
theorem rep_set {n : Nat} {a : Int} (h0 : 0 ≤ a) (h : a < n) : (List.replicate n false).set a.toNat true = actsL n a := by
  apply List.ext_getElem?
  intro i
  rw [List.getElem?_set, actsL]
  simp only [List.length_replicate, List.getElem?_replicate, List.getElem?_map]
  by_cases hi : i < n
  · rw [if_pos hi, List.getElem?_range hi]
    by_cases he : a.toNat = i
    · rw [if_pos he, if_pos (by omega)]
      have : (i : Int) = a := by omega
      simp [this]
    · rw [if_neg he]
      have : ¬ (i : Int) = a := by omega
      simp [this]
  · rw [if_neg hi, List.getElem?_eq_none (by simp; omega)]
    by_cases he : a.toNat = i
    · omega
    · rw [if_neg he]; rfl
theorem effs_at {t : Task} {a e : Nat} (ha : a < t.acts.length) (he : e < t.acts[a].effs.length) : (effsOf t)[bef t a + e]? = some t.acts[a].effs[e] := by
  have h1 : effsOf t = (t.acts.take a).flatMap (·.effs) ++ (t.acts[a].effs ++ (t.acts.drop (a + 1)).flatMap (·.effs)) := by
    have : t.acts = t.acts.take a ++ (t.acts[a] :: t.acts.drop (a + 1)) := by rw [List.getElem_cons_drop, List.take_append_drop]
    unfold effsOf
    conv => lhs; rw [this]
    rw [List.flatMap_append, List.flatMap_cons]
  rw [h1, List.getElem?_append_right (by unfold bef; omega)]
  have : bef t a + e - ((t.acts.take a).flatMap (·.effs)).length = e := by unfold bef; omega
  rw [this, List.getElem?_append_left he, List.getElem?_eq_getElem he]
/-- The row under way: facts, actions and so many effects are in. -/
def outW (t : Task) (p : List Int) (i m r : Nat) : List Bool := modL t p i ++ (bitsL t.facts.length (stAt t t.init p i) ++ (actsL t.acts.length (p.getD i 0) ++ ((whenL (stAt t t.init p i) (effsOf t)).take m ++ List.replicate r false)))
def outF (t : Task) (p : List Int) (i j r : Nat) : List Bool := modL t p i ++ (bitsL t.facts.length ((stAt t t.init p i).take j) ++ List.replicate r false)
theorem outF_len (t : Task) (p : List Int) (i j r : Nat) : (outF t p i j r).length = i * wdt t + t.facts.length + r := by
  simp only [outF, List.length_append, modL_len, bitsL_length, List.length_replicate]; omega
theorem outW_len {t : Task} (p : List Int) (i : Nat) {m : Nat} (r : Nat) (hm : m ≤ (effsOf t).length) : (outW t p i m r).length = i * wdt t + t.facts.length + t.acts.length + m + r := by
  simp only [outW, List.length_append, modL_len, bitsL_length, actsL_len, List.length_replicate, List.length_take, whenL_len]; omega
theorem outF_zero (t : Task) (p : List Int) (i r : Nat) : outF t p i 0 r = modL t p i ++ List.replicate (t.facts.length + r) false := by
  rw [outF, List.take_zero, rep_split (Nat.le_add_right t.facts.length r), Nat.add_sub_cancel_left]; rfl
theorem outF_set {t : Task} {p : List Int} {i j r : Nat} (hj : j < (stAt t t.init p i).length) (h0 : 0 ≤ (stAt t t.init p i)[j]) (h1 : (stAt t t.init p i)[j] < t.facts.length) :
    (outF t p i j r).set (i * wdt t + ((stAt t t.init p i)[j]).toNat) true = outF t p i (j + 1) r := by
  have := set_mid (A := modL t p i) (B := bitsL t.facts.length ((stAt t t.init p i).take j)) (C := List.replicate r false) (k := ((stAt t t.init p i)[j]).toNat) (b := true) (by rw [bitsL_length]; omega)
  rw [modL_len] at this
  rw [outF, this, outF, bitsL_step hj]
theorem outF_all (t : Task) (p : List Int) (i r : Nat) : outF t p i (stAt t t.init p i).length r = modL t p i ++ (bitsL t.facts.length (stAt t t.init p i) ++ List.replicate r false) := by
  rw [outF, List.take_length]
theorem outA_set {t : Task} {p : List Int} {i r : Nat} (h0 : 0 ≤ p.getD i 0) (h1 : p.getD i 0 < t.acts.length) :
    (outF t p i (stAt t t.init p i).length (t.acts.length + r)).set (i * wdt t + t.facts.length + (p.getD i 0).toNat) true = outW t p i 0 r := by
  rw [outF_all, rep_split (Nat.le_add_right t.acts.length r), Nat.add_sub_cancel_left, ← List.append_assoc]
  have := set_mid (A := modL t p i ++ bitsL t.facts.length (stAt t t.init p i)) (B := List.replicate t.acts.length false) (C := List.replicate r false) (k := (p.getD i 0).toNat) (b := true) (by rw [List.length_replicate]; omega)
  rw [List.length_append, modL_len, bitsL_length] at this
  rw [this, rep_set h0 h1, outW, List.append_assoc, List.take_zero]; rfl
theorem outW_set {t : Task} {p : List Int} {i m r : Nat} {e : Eff} (he : (effsOf t)[m]? = some e) :
    (outW t p i m (r + 1)).set (i * wdt t + t.facts.length + t.acts.length + m) (holdsB (stAt t t.init p i) e.when_) = outW t p i (m + 1) r := by
  have hm : m < (effsOf t).length := (List.getElem?_eq_some_iff.1 he).1
  have := set_mid (A := modL t p i ++ (bitsL t.facts.length (stAt t t.init p i) ++ (actsL t.acts.length (p.getD i 0) ++ (whenL (stAt t t.init p i) (effsOf t)).take m))) (B := [false]) (C := List.replicate r false) (k := 0) (b := holdsB (stAt t t.init p i) e.when_) (by simp)
  simp only [List.length_append, modL_len, bitsL_length, actsL_len, List.length_take, whenL_len, Nat.min_eq_left (Nat.le_of_lt hm), Nat.add_zero] at this
  have e1 : i * wdt t + (t.facts.length + (t.acts.length + m)) = i * wdt t + t.facts.length + t.acts.length + m := by omega
  rw [e1] at this
  have e2 : outW t p i m (r + 1) = (modL t p i ++ (bitsL t.facts.length (stAt t t.init p i) ++ (actsL t.acts.length (p.getD i 0) ++ (whenL (stAt t t.init p i) (effsOf t)).take m))) ++ ([false] ++ List.replicate r false) := by
    rw [outW]; simp [List.replicate_succ]
  have e3 : (whenL (stAt t t.init p i) (effsOf t)).take (m + 1) = (whenL (stAt t t.init p i) (effsOf t)).take m ++ [holdsB (stAt t t.init p i) e.when_] := by
    rw [List.take_add_one, whenL, List.getElem?_map, he]; rfl
  rw [e2, this, outW, e3]; simp
theorem outW_all (t : Task) (p : List Int) (i r : Nat) : outW t p i (effsOf t).length (t.facts.length + r) = outF t p (i + 1) 0 r := by
  rw [outF_zero, outW, List.take_of_length_le (by rw [whenL_len]; exact Nat.le_refl _), modL, rowL]; simp
theorem outF_end (t : Task) (p : List Int) : outF t p p.length (stAt t t.init p p.length).length 0 = modelOf t p := by
  rw [outF_all, modelOf]; simp
end Go.Fw

/- The program's model of a plan. -/
namespace Go.Fw
open Go Go.Proofs
set_option maxRecDepth 10000

def od44 : Od := [(23, [(0, .tree (.pure 0 (.pure 1 (.pure 2 (.pure 3 (.pure 4 (.pure 7 (.pure 8 (.pure 9 (.last 5 (.pure 6 (.last 10 (.pure 11 (.last 12 .done [])) [0, 6])) [0, 7, 8, 9]))))))))))]), (26, [(0, .tree (.pure 0 (.pure 1 (.pure 2 (.pure 3 (.pure 4 (.pure 5 (.pure 6 (.pure 7 (.pure 8 (.last 9 (.last 10 .done []) [1, 3, 4, 5])))))))))))])]
def kq44 : Kp := [(8, ([1, 2, 8, 9, 10, 39, 40], [16, 249000843, 249000963, 272])), (11, ([1, 2, 8, 9, 10, 11, 39, 40, 43, 44, 45], [16, 249000843, 249000963, 272])), (18, ([1, 2, 8, 9, 10, 11, 39, 40, 72, 73, 74], [16, 249000843, 249000963, 272])), (21, ([1, 2, 8, 9, 10, 11, 14, 39, 40, 72, 73, 74, 80, 81, 82], [16, 249000843, 249000963, 272]))]
set_option maxHeartbeats 2000000 in
theorem f44_spec (t : Task) (n2 : Bool) (p : List Int) (ht : isB t = true) (hp : planB t p = true) (hn : p.length ≤ 100) (out : List Fr) : SpecP Try.prog 44 [.task t, .ints n2 p] out fun r ro =>
    (¬ Valid t t.init p ∧ r = .tup [.t (.sl true 0 []), .bool false] ∧ ro = []) ∨
    (Valid t t.init p ∧ r = .tup [.osl (.cur 272) 1 0 (p.length * wdt t + t.facts.length), .bool true] ∧ ro = [(272, .row 4 1 ((modelOf t p).map tB))]) := by
  have TK := task_ok ht
  have hs := init_rising ht
  have hF := TK.facts
  have hA := TK.acts
  have hE := effs_le TK
  have hwd : wdt t ≤ 200000 := by unfold wdt; omega
  have m42 := f42_spec t p.length TK
  refine spec_body cx_ok kq44 od44 (fn := Try.f44) (by kernel_rfl) rfl (by kernel_rfl) rfl (by unfold FnOK; kernel_rfl) fun hok => ?_
  refine SpecP.mono (f41_spec t t.ni n2 t.init p TK hs hp []) ?_
  rintro _ _ ⟨hc, rfl⟩
  cases hc with
  | no hv =>
    refine And.intro (fun h => Bool.noConfusion h) fun _ => ?_
    exact Exists.intro [] (.inl ⟨hv, rfl, rfl⟩)
  | yes hv =>
    refine And.intro (fun _ => ?_) fun h => Bool.noConfusion h
    have e0 : (p.map tI).length = p.length := List.length_map ..
    have hnw : p.length * wdt t ≤ 100 * 200000 := Nat.mul_le_mul hn hwd
    cases hB : befL t t.acts.length
    case' nil => let O : List Int := []
    case' cons y r => let O : List Int := y :: r
    all_goals
      rw [hB] at m42
      refine SpecP.mono (by rw [e0]; exact m42 _) ?_
      rintro _ _ ⟨rfl, rfl⟩
      have eN : (p.length : Int) * (wdt t : Int) + (t.facts.length : Int) = ((p.length * wdt t + t.facts.length : Nat) : Int) := by rw [Int.natCast_add, Int.natCast_mul]
      have m43 := fun (x y : LV) (fr : Fr) h out => f43_spec t p.length (wdt t) x y 249000843 fr h hF ⟨by omega, by omega⟩ ⟨by omega, by omega⟩ out
      rw [eN] at m43
      refine SpecP.mono (m43 _ _ _ rfl _) ?_
      rintro _ _ ⟨rfl, rfl⟩
      generalize hN : p.length * wdt t + t.facts.length = N at *
      refine And.intro trivial (And.intro trivial (And.intro rfl (And.intro (by omega) (And.intro (by show (N : Int) * (1 : Nat) ≤ _; omega) (And.intro (by omega) ?_)))))
      refine And.intro (by omega) (And.intro (by omega) ?_)
      refine LoopW.mk Nat (fun i => i ≤ p.length)
        (fun i => [(1, .ints n2 p), (2, .ptr (.cur 16) 0), (8, .ptr (.cur 249000843) 0), (9, .osl (.cur 272) 1 0 N), (10, .ints (stN t.ni t t.init p i) (stAt t t.init p i)), (39, .int ((p.map tI).length + 1)), (40, .int i)])
        (fun i => ⟨out, (16, .box (cellsTask t)) :: (249000843, .box (coderC t p.length (wdt t) (accV 249000963 1 (O.map tI)) (.t (.sl true 0 [])))) :: (accO 249000963 3 1 (O.map tI) ++ [(272, .row 4 1 ((outF t p i 0 ((p.length - i) * wdt t)).map tB))])⟩) (fun i => p.length + 1 - i) 0 (Nat.zero_le _) ?_ fun i hI => ?_
      · have h0 : (outF t p 0 0 ((p.length - 0) * wdt t)).map tB = List.replicate N (tB false) := by
          rw [outF_zero, ← hN]; simp [modL, Nat.add_comm]
        refine ⟨rfl, ?_⟩
        simp only [h0]; rfl
      refine And.intro (fun h1 => ?_) fun h1 => ?_
      rotate_left
      · have := of_decide_eq_false h1; omega
      have hsi := st_rising (t := t) (p := p) hs i
      have hin := rising_in hsi
      have hiw : i * wdt t ≤ p.length * wdt t := Nat.mul_le_mul_right _ hI
      have hnm : (p.length - i) * wdt t + i * wdt t = p.length * wdt t := by rw [← Nat.add_mul]; congr 1; omega
      have eiw : ((i : Int) * (wdt t : Int)) = ((i * wdt t : Nat) : Int) := (Int.natCast_mul ..).symm
      refine LoopW.mk Nat (fun j => j ≤ (stAt t t.init p i).length)
        (fun j => [(1, .ints n2 p), (2, .ptr (.cur 16) 0), (8, .ptr (.cur 249000843) 0), (9, .osl (.cur 272) 1 0 N), (10, .ints (stN t.ni t t.init p i) (stAt t t.init p i)), (11, .int i), (39, .int ((p.map tI).length + 1)), (40, .int i),
          (43, .ints (stN t.ni t t.init p i) (stAt t t.init p i)), (44, .int ((stAt t t.init p i).map tI).length), (45, .int j)])
        (fun j => ⟨out, (16, .box (cellsTask t)) :: (249000843, .box (coderC t p.length (wdt t) (accV 249000963 1 (O.map tI)) (.t (.sl true 0 [])))) :: (accO 249000963 3 1 (O.map tI) ++ [(272, .row 4 1 ((outF t p i j ((p.length - i) * wdt t)).map tB))])⟩) (fun j => (stAt t t.init p i).length - j) 0 (Nat.zero_le _) ⟨rfl, rfl⟩ fun j hJ => ?_
      refine And.intro (fun h2 => ?_) fun h2 => ?_
      · have hj := lt_of_dec h2
        have hf := hin _ (List.getElem_mem hj)
        have hjm := le_max (α := Int) (l := stAt t t.init p i) (f := tI) (by have := rising_len hsi (by omega); rw [List.length_map]; unfold maxLen; omega)
        refine And.intro (by omega) (Exists.intro _ (And.intro (get_map hj) ?_))
        refine SpecP.mono (f79_spec t p.length (wdt t) _ _ 249000843 _ rfl i _ ⟨by omega, by omega⟩ ⟨by omega, by omega⟩ ⟨by omega, by omega⟩ _) ?_
        rintro _ _ ⟨rfl, rfl⟩
        rw [eiw]
        refine And.intro trivial (And.intro trivial (And.intro (by omega) (And.intro (by omega) (And.intro (by omega) (And.intro (by omega) ?_)))))
        have hix : 0 + ((i * wdt t : Nat) + 1 + (stAt t t.init p i)[j] - 1 : Int).toNat = i * wdt t + ((stAt t t.init p i)[j]).toNat := by omega
        have hlen := outF_len t p i j ((p.length - i) * wdt t)
        refine Exists.intro (tB ((outF t p i j ((p.length - i) * wdt t)).getD (i * wdt t + ((stAt t t.init p i)[j]).toNat) false)) (And.intro ?_ ?_)
        · rw [hix, List.getElem?_map, List.getElem?_eq_getElem (by omega), List.getD_eq_getElem?_getD, List.getElem?_eq_getElem (by omega)]; rfl
        refine And.intro (Nat.le_refl 1) ?_
        refine And.intro (by omega) (And.intro (by omega) ?_)
        refine Exists.intro (j + 1) (And.intro (by show (stAt t t.init p i).length - (j + 1) < (stAt t t.init p i).length - j; omega) (And.intro hj (And.intro rfl ?_)))
        have hset : ((outF t p i j ((p.length - i) * wdt t)).map tB).set (0 + ((i * wdt t : Nat) + 1 + (stAt t t.init p i)[j] - 1 : Int).toNat) (tB true) = (outF t p i (j + 1) ((p.length - i) * wdt t)).map tB := by
          rw [hix, map_set', outF_set hj hf.1 hf.2]
        simp only [← hset]; rfl
      have hj : j = (stAt t t.init p i).length := by have := ge_of_dec h2; have : j ≤ (stAt t t.init p i).length := hJ; omega
      subst hj
      refine And.intro (fun h3 => ?_) fun h3 => ?_
      · have hi : i = p.length := by have := beq_iff_eq.1 h3; rw [e0] at this; omega
        refine Exists.intro [272] (.inr ⟨hv, rfl, ?_⟩)
        show [(272, Ob.row 4 1 ((outF t p i (stAt t t.init p i).length ((p.length - i) * wdt t)).map tB))] = _
        subst hi
        rw [Nat.sub_self, Nat.zero_mul, outF_end]
      have hi : i < p.length := by
        have h4 : ¬ (i : Int) = ((p.map tI).length : Int) := by simpa using h3
        rw [e0] at h4; omega
      obtain ⟨k, hk1, hk2, hk3, _⟩ := plan_get hp hi
      have hg : p.getD i 0 = (k : Int) := by rw [List.getD_eq_getElem?_getD, List.getElem?_eq_getElem hi, Option.getD_some, hk1]
      have hwe : wdt t = t.facts.length + t.acts.length + (effsOf t).length := rfl
      have hdec : (p.length - i) * wdt t = wdt t + (p.length - (i + 1)) * wdt t := by rw [show p.length - i = (p.length - (i + 1)) + 1 by omega, Nat.add_mul]; omega
      refine And.intro (by omega) (Exists.intro (tI k) (And.intro (by rw [← hk1]; exact get_map hi) ?_))
      refine SpecP.mono (f46_spec t p.length (wdt t) _ _ 249000843 _ rfl hF i k ⟨by omega, by omega⟩ ⟨by omega, by omega⟩ ⟨by omega, by omega⟩ _) ?_
      rintro _ _ ⟨rfl, rfl⟩
      rw [eiw]
      refine And.intro trivial (And.intro trivial (And.intro (by omega) (And.intro (by omega) (And.intro (by omega) (And.intro (by omega) ?_)))))
      have hix : 0 + ((i * wdt t : Nat) + (t.facts.length : Int) + 1 + (k : Int) - 1 : Int).toNat = i * wdt t + t.facts.length + k := by omega
      have hlen := outF_len t p i (stAt t t.init p i).length ((p.length - i) * wdt t)
      refine Exists.intro (tB ((outF t p i (stAt t t.init p i).length ((p.length - i) * wdt t)).getD (i * wdt t + t.facts.length + k) false)) (And.intro ?_ ?_)
      · rw [hix, List.getElem?_map, List.getElem?_eq_getElem (by omega), List.getD_eq_getElem?_getD, List.getElem?_eq_getElem (by omega)]; rfl
      refine And.intro (Nat.le_refl 1) ?_
      have hset : ((outF t p i (stAt t t.init p i).length ((p.length - i) * wdt t)).map tB).set (0 + ((i * wdt t : Nat) + (t.facts.length : Int) + 1 + (k : Int) - 1 : Int).toNat) (tB true) =
          (outW t p i 0 ((effsOf t).length + (t.facts.length + (p.length - (i + 1)) * wdt t))).map tB := by
        have := outA_set (t := t) (p := p) (i := i) (r := (effsOf t).length + (t.facts.length + (p.length - (i + 1)) * wdt t)) (by omega) (by omega)
        rw [hg, Int.toNat_natCast] at this
        rw [hix, map_set', ← this]; congr 3; omega
      refine LoopW.mk Nat (fun a => a ≤ t.acts.length)
        (fun a => [(1, .ints n2 p), (2, .ptr (.cur 16) 0), (8, .ptr (.cur 249000843) 0), (9, .osl (.cur 272) 1 0 N), (10, .ints (stN t.ni t t.init p i) (stAt t t.init p i)), (11, .int i), (39, .int ((p.map tI).length + 1)), (40, .int i),
          (72, .t (.sl t.an 4 (t.acts.map tAct))), (73, .int (t.acts.map tAct).length), (74, .int a)])
        (fun a => ⟨out, (16, .box (cellsTask t)) :: (249000843, .box (coderC t p.length (wdt t) (accV 249000963 1 (O.map tI)) (.t (.sl true 0 [])))) :: (accO 249000963 3 1 (O.map tI) ++ [(272, .row 4 1 ((outW t p i (bef t a) ((effsOf t).length - bef t a + (t.facts.length + (p.length - (i + 1)) * wdt t))).map tB))])⟩) (fun a => t.acts.length - a) 0 (Nat.zero_le _) ⟨rfl, ?_⟩ fun a hJ => ?_
      · simp only [show bef t 0 = 0 from rfl, Nat.sub_zero, ← hset]; rfl
      refine And.intro (fun h4 => ?_) fun h4 => ?_
      · have ha : a < t.acts.length := lt_of_dec h4
        first
          | (exfalso
             have h9 := befL_len t t.acts.length
             rw [hB] at h9
             simp at h9
             omega)
          | (have hOb : O[a]? = some (bef t a : Int) := by rw [show O = befL t t.acts.length from hB.symm]; exact befL_get ha
             have hEa := TK.effs _ (List.getElem_mem ha)
             have hbm := bef_mono (t := t) (a := a + 1) (b := t.acts.length) ha (Nat.le_refl _)
             rw [bef_all, bef_step ha] at hbm
             have hbb : bef t a ≤ 100000 := by omega
             refine And.intro (by omega) (Exists.intro _ (And.intro (get_map ha) ?_))
             refine LoopW.mk Nat (fun e => e ≤ t.acts[a].effs.length)
               (fun e => [(1, .ints n2 p), (2, .ptr (.cur 16) 0), (8, .ptr (.cur 249000843) 0), (9, .osl (.cur 272) 1 0 N), (10, .ints (stN t.ni t t.init p i) (stAt t t.init p i)), (11, .int i), (14, .int a), (39, .int ((p.map tI).length + 1)), (40, .int i),
                 (72, .t (.sl t.an 4 (t.acts.map tAct))), (73, .int (t.acts.map tAct).length), (74, .int a), (80, .t (.sl t.acts[a].en 3 (t.acts[a].effs.map tEff))), (81, .int (t.acts[a].effs.map tEff).length), (82, .int e)])
               (fun e => ⟨out, (16, .box (cellsTask t)) :: (249000843, .box (coderC t p.length (wdt t) (accV 249000963 1 (O.map tI)) (.t (.sl true 0 [])))) :: (accO 249000963 3 1 (O.map tI) ++ [(272, .row 4 1 ((outW t p i (bef t a + e) ((effsOf t).length - (bef t a + e) + (t.facts.length + (p.length - (i + 1)) * wdt t))).map tB))])⟩) (fun e => t.acts[a].effs.length - e) 0 (Nat.zero_le _) ⟨rfl, rfl⟩ fun e hK => ?_
             refine And.intro (fun h5 => ?_) fun h5 => ?_
             · have he : e < t.acts[a].effs.length := lt_of_dec h5
               refine And.intro (by omega) (Exists.intro _ (And.intro (get_map he) ?_))
               refine SpecP.mono (f80_spec t p.length (wdt t) _ 249000843 249000963 O _ rfl rfl hF hA i e a (bef t a) hOb ⟨by omega, by omega⟩ ⟨by omega, by omega⟩ ⟨by omega, by omega⟩ ⟨by omega, by omega⟩ _) ?_
               rintro _ _ ⟨rfl, rfl⟩
               rw [eiw]
               refine And.intro trivial (And.intro trivial (And.intro rfl (And.intro rfl (And.intro rfl (And.intro rfl (And.intro (by omega) (And.intro (by omega) ?_)))))))
               refine SpecP.mono (f61_spec (stN t.ni t t.init p i) t.acts[a].effs[e].nil (stAt t t.init p i) t.acts[a].effs[e].when_ t.facts.length hsi (by omega) []) ?_
               rintro _ _ ⟨rfl, rfl⟩
               have hix : 0 + ((i * wdt t : Nat) + (t.facts.length : Int) + (t.acts.length : Int) + 1 + (bef t a : Int) + (e : Int) - 1 : Int).toNat = i * wdt t + t.facts.length + t.acts.length + (bef t a + e) := by omega
               have hlen := outW_len (t := t) p i (m := bef t a + e) ((effsOf t).length - (bef t a + e) + (t.facts.length + (p.length - (i + 1)) * wdt t)) (by omega)
               have hel : ∃ y, ((outW t p i (bef t a + e) ((effsOf t).length - (bef t a + e) + (t.facts.length + (p.length - (i + 1)) * wdt t))).map tB)[0 + ((i * wdt t : Nat) + (t.facts.length : Int) + (t.acts.length : Int) + 1 + (bef t a : Int) + (e : Int) - 1 : Int).toNat]? = some (tB y) := by
                 rw [hix, List.getElem?_map, List.getElem?_eq_getElem (by omega)]; exact ⟨_, rfl⟩
               obtain ⟨yy, hyy⟩ := hel
               have hset : ((outW t p i (bef t a + e) ((effsOf t).length - (bef t a + e) + (t.facts.length + (p.length - (i + 1)) * wdt t))).map tB).set (0 + ((i * wdt t : Nat) + (t.facts.length : Int) + (t.acts.length : Int) + 1 + (bef t a : Int) + (e : Int) - 1 : Int).toNat) (tB (holdsB (stAt t t.init p i) t.acts[a].effs[e].when_)) =
                   (outW t p i (bef t a + (e + 1)) ((effsOf t).length - (bef t a + (e + 1)) + (t.facts.length + (p.length - (i + 1)) * wdt t))).map tB := by
                 have := outW_set (t := t) (p := p) (i := i) (m := bef t a + e) (r := (effsOf t).length - (bef t a + e + 1) + (t.facts.length + (p.length - (i + 1)) * wdt t)) (effs_at ha he)
                 rw [hix, map_set', show bef t a + (e + 1) = bef t a + e + 1 by omega, ← this]; congr 3; omega
               refine And.intro (fun h6 => ?_) fun h6 => ?_
               all_goals
                 rw [h6] at hset
                 refine And.intro rfl (And.intro (by omega) (And.intro (by omega) (And.intro rfl (And.intro (by omega) (And.intro (by omega) (Exists.intro _ (And.intro hyy (And.intro (Nat.le_refl 1) ?_))))))))
                 refine And.intro (by omega) (And.intro (by omega) ?_)
                 refine Exists.intro (e + 1) (And.intro (by show t.acts[a].effs.length - (e + 1) < t.acts[a].effs.length - e; omega) (And.intro he (And.intro rfl ?_)))
                 simp only [← hset]; rfl
             have he : e = t.acts[a].effs.length := by have := ge_of_dec h5; have : e ≤ t.acts[a].effs.length := hK; omega
             subst he
             refine And.intro (by omega) (And.intro (by omega) ?_)
             refine Exists.intro (a + 1) (And.intro (by show t.acts.length - (a + 1) < t.acts.length - a; omega) (And.intro ha (And.intro rfl ?_)))
             simp only [bef_step ha]; rfl)
      have ha : a = t.acts.length := by have := ge_of_dec h4; have : a ≤ t.acts.length := hJ; omega
      subst ha
      have hsz := hs
      refine And.intro (by omega) (Exists.intro (tI k) (And.intro (by rw [← hk1]; exact get_map hi) ?_))
      refine And.intro (by omega) (Exists.intro _ (And.intro (get_map hk2) ?_))
      have hmem : t.acts[k] ∈ t.acts := List.getElem_mem hk2
      refine SpecP.mono (f63i_spec (stN t.ni t t.init p i) (stAt t t.init p i) t.acts[k] t.facts.length hsi (by omega) (TK.lit _ hmem) (by have := TK.effs _ hmem; omega) []) ?_
      rintro _ _ ⟨rfl, rfl⟩
      refine And.intro rfl (And.intro rfl (And.intro rfl (And.intro (by omega) (Exists.intro _ (And.intro (by rw [← hk1]; exact get_map hi) (And.intro rfl ?_))))))
      have hst : stAt t t.init p (i + 1) = afterL t.facts.length (stAt t t.init p i) t.acts[k].effs := by rw [stAt, hk3]
      rw [← hst]
      refine And.intro (by omega) (And.intro (by omega) ?_)
      refine Exists.intro (i + 1) (And.intro (by show p.length + 1 - (i + 1) < p.length + 1 - i; omega) (And.intro hi (And.intro rfl ?_)))
      have hlast : (outW t p i (bef t t.acts.length) ((effsOf t).length - bef t t.acts.length + (t.facts.length + (p.length - (i + 1)) * wdt t))).map tB = (outF t p (i + 1) 0 ((p.length - (i + 1)) * wdt t)).map tB := by
        rw [bef_all, Nat.sub_self, Nat.zero_add, outW_all]
      simp only [← hlast]; rfl

end Go.Fw

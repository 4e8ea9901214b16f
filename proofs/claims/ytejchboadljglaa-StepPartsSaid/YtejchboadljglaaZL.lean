/- Plans do not pass by a landmark: the law MarkPlans. -/
import Derived.Test.YtejchboadljglaaZJ

/- What the program's functions do, part 35: lists of actions; the state after an action. -/
namespace Go.Fw
open Go Go.Proofs
set_option maxRecDepth 10000

def planB (t : Task) (p : List Int) : Bool := decide (p.length ≤ 10000) && p.all fun x => decide (0 ≤ x) && decide (x < t.acts.length)
def kp44 : Kp := [(4, ([2, 10, 11, 12], [16]))]
theorem f44_spec (t : Task) (n2 : Bool) (p : List Int) (out : List Fr) : SpecP Try.prog 44 [.task t, .ints n2 p] out fun r ro => r = .bool (planB t p) ∧ ro = [] := by
  refine spec_body cx_ok kp44 [] (fn := Try.f44) (by kernel_rfl) rfl (by kernel_rfl) rfl (by unfold FnOK; kernel_rfl) fun hok => ?_
  refine And.intro (fun h1 => ?_) fun h1 => ?_
  · have h1 := of_decide_eq_true h1
    rw [List.length_map] at h1
    exact Exists.intro [] (ret_bool (by simp [planB]; omega) rfl)
  have h1 := of_decide_eq_false h1
  rw [List.length_map] at h1
  refine LoopW.mk Nat (fun i => i ≤ p.length ∧ (p.take i).all (fun x => decide (0 ≤ x) && decide (x < t.acts.length)) = true) (fun i => [(2, .ptr (.cur 16) 0), (10, .ints n2 p), (11, .int (p.map tI).length), (12, .int i)])
    (fun _ => ⟨out, [(16, .box (cellsTask t))]⟩) (fun i => p.length - i) 0 ⟨Nat.zero_le _, rfl⟩ ⟨rfl, rfl⟩ fun i hI => ?_
  refine And.intro (fun h2 => ?_) fun h2 => ?_
  · have hi := lt_of_dec h2
    have bad : (decide (0 ≤ p[i]) && decide (p[i] < t.acts.length)) = false → planB t p = false := fun h => by rw [planB, all_false hi h, Bool.and_false]
    refine And.intro (by omega) (Exists.intro _ (And.intro (get_map hi) ?_))
    refine And.intro (fun h3 => ?_) fun h3 => ?_
    · have h3 := of_decide_eq_true h3
      exact Exists.intro [] (ret_bool (bad (by simp; omega)) rfl)
    have h3 := of_decide_eq_false h3
    refine And.intro (fun h4 => ?_) fun h4 => ?_
    · have h4 := of_decide_eq_true h4
      rw [List.length_map] at h4
      exact Exists.intro [] (ret_bool (bad (by simp; omega)) rfl)
    have h4 := of_decide_eq_false h4
    rw [List.length_map] at h4
    refine And.intro (by omega) (And.intro (by omega) ?_)
    exact Exists.intro (i + 1) (And.intro (by show p.length - (i + 1) < p.length - i; omega) (And.intro ⟨hi, all_step hi hI.2 (by simp; omega)⟩ (And.intro rfl rfl)))
  · have := all_end (ge_of_dec h2) hI.2
    exact Exists.intro [] (ret_bool (by rw [planB, this]; simp; omega) rfl)

def negStep (s : List Int) (b : List Bool) (e : Eff) : List Bool := if (e.lit.neg && holdsB s e.when_) = true then b.set e.lit.fact.toNat false else b
def posStep (s : List Int) (b : List Bool) (e : Eff) : List Bool := if (!e.lit.neg && holdsB s e.when_) = true then b.set e.lit.fact.toNat true else b
def negAll (n : Nat) (s : List Int) (l : List Eff) : List Bool := l.foldl (negStep s) (bitsL n s)
def afterBits (n : Nat) (s : List Int) (l : List Eff) : List Bool := l.foldl (posStep s) (negAll n s l)
def afterL (n : Nat) (s : List Int) (l : List Eff) : List Int := listL (afterBits n s l)

theorem foldl_len {f : List Bool → Eff → List Bool} (h : ∀ b e, (f b e).length = b.length) : ∀ (l : List Eff) (b : List Bool), (l.foldl f b).length = b.length
  | [], _ => rfl
  | e :: r, b => by rw [List.foldl_cons, foldl_len h r, h]
theorem neg_len (s : List Int) (b : List Bool) (e : Eff) : (negStep s b e).length = b.length := by unfold negStep; split <;> simp
theorem pos_len (s : List Int) (b : List Bool) (e : Eff) : (posStep s b e).length = b.length := by unfold posStep; split <;> simp
theorem foldl_take {f : List Bool → Eff → List Bool} {l : List Eff} {b : List Bool} {i : Nat} (hi : i < l.length) : (l.take (i + 1)).foldl f b = f ((l.take i).foldl f b) l[i] := by
  rw [List.take_add_one, List.getElem?_eq_getElem hi, Option.toList_some, List.foldl_append]; rfl

def sSz : List Int → Nat
  | [] => 0
  | _ :: _ => 1
def sT (s : List Int) : T := .sl s.isEmpty (sSz s) (s.map tI)
theorem sT_vl {s : List Int} {β : K → Nat} {RO : Nat → Prop} {w : World} {v : Value} (h : VL β RO w (.t (sT s)) v) : VL β RO w (.ints s.isEmpty s) v := by
  cases s with
  | nil => exact nil_sz β RO w v h
  | cons x r => exact h

theorem el_at {b : List Bool} {n : Nat} (h : n < b.length) : ∃ y, (b.map tB)[0 + n]? = some (tB y) :=
  ⟨b[n], by rw [Nat.zero_add, List.getElem?_map, List.getElem?_eq_getElem h]; rfl⟩
def kp41 : Kp := [(3, ([1, 2, 3, 7, 22, 23, 24], [24, 129000459])), (9, ([1, 7, 48, 49, 50], [129000459]))]
theorem f41_spec (t : Task) (n1 : Bool) (s : List Int) (k : Nat) (TK : TaskOK t) (hs : ∀ x ∈ s, 0 ≤ x ∧ x < (t.facts.length : Int)) (hk : k < t.acts.length) (out : List Fr) :
    SpecP Try.prog 41 [.task t, .ints n1 s, .int k] out fun r ro => r = .t (sT (afterL t.facts.length s t.acts[k].effs)) ∧ ro = [] := by
  refine SpecP.close (Post := fun r ro => r = accV 569001843 1 ((afterL t.facts.length s t.acts[k].effs).map tI) ∧ ro = accO 569001843 3 1 ((afterL t.facts.length s t.acts[k].effs).map tI)) ?_ ?_
  rotate_left
  · rintro r ro ⟨rfl, rfl⟩
    generalize afterL t.facts.length s t.acts[k].effs = L
    cases L with
    | nil => exact ⟨_, .same _, rfl, rfl⟩
    | cons x r =>
      refine ⟨_, .row 569001843 3 1 0 _ ((x :: r).map tI) rfl (by simp), ?_, rfl⟩
      show LV.t (.sl false 1 ((((x :: r).map tI).drop 0).take ((x :: r).map tI).length)) = _
      rw [← take_all]; rfl
  refine spec_body cx_ok kp41 [] (fn := Try.f41) (by kernel_rfl) rfl (by kernel_rfl) rfl (by unfold FnOK; kernel_rfl) fun hok => ?_
  have hfl : (t.facts.map tS).length = t.facts.length := List.length_map ..
  have hN := TK.facts
  have hmem : t.acts[k] ∈ t.acts := List.getElem_mem hk
  have hE := TK.effs _ hmem
  refine SpecP.mono (f69_spec (t.facts.map tS).length n1 s (by omega) (by rw [hfl]; exact hs) []) ?_
  rintro _ _ ⟨rfl, rfl⟩
  refine And.intro (by omega) (Exists.intro _ (And.intro (get_map hk) ?_))
  have nl : ∀ i, ((t.acts[k].effs.take i).foldl (negStep s) (bitsL (t.facts.map tS).length s)).length = t.facts.length := fun i => by rw [foldl_len (neg_len s), bitsL_length, hfl]
  refine LoopW.mk Nat (fun i => i ≤ t.acts[k].effs.length) (fun i => [(1, .ints n1 s), (2, .int k), (3, .ptr (.cur 24) 0), (7, .osl (.cur 129000459) 1 0 (t.facts.map tS).length), (22, .t (.sl t.acts[k].en 3 (t.acts[k].effs.map tEff))), (23, .int (t.acts[k].effs.map tEff).length), (24, .int i)])
    (fun i => ⟨out, [(24, .box (cellsTask t)), (129000459, .row 4 1 (((t.acts[k].effs.take i).foldl (negStep s) (bitsL (t.facts.map tS).length s)).map tB))]⟩) (fun i => t.acts[k].effs.length - i) 0 (Nat.zero_le _) ⟨rfl, rfl⟩ fun i hI => ?_
  refine And.intro (fun h1 => ?_) fun h1 => ?_
  · have hi := lt_of_dec h1
    have hin := TK.lit _ hmem _ (List.getElem_mem hi)
    have hnl := nl i
    have hft : t.acts[k].effs[i].lit.fact.toNat < ((t.acts[k].effs.take i).foldl (negStep s) (bitsL (t.facts.map tS).length s)).length := by rw [hnl]; have := hin.1; have := hin.2; omega
    have stay : (t.acts[k].effs[i].lit.neg && holdsB s t.acts[k].effs[i].when_) = false → (t.acts[k].effs.take (i + 1)).foldl (negStep s) (bitsL (t.facts.map tS).length s) = (t.acts[k].effs.take i).foldl (negStep s) (bitsL (t.facts.map tS).length s) := fun h => by rw [foldl_take hi, negStep, h]; rfl
    refine And.intro (by omega) (Exists.intro _ (And.intro (get_map hi) ?_))
    refine And.intro (fun h2 => ?_) fun h2 => ?_
    · refine SpecP.mono (f25_spec n1 t.acts[k].effs[i].nil s t.acts[k].effs[i].when_ []) ?_
      rintro _ _ ⟨rfl, rfl⟩
      refine And.intro (fun h3 => ?_) fun h3 => ?_
      · obtain ⟨y, hy⟩ := el_at hft
        refine And.intro hin.1 (And.intro (by rw [hfl]; exact hin.2) (Exists.intro (tB y) (And.intro hy (And.intro (Nat.le_refl 1) ?_))))
        refine And.intro (by omega) (And.intro (by omega) ?_)
        refine Exists.intro (i + 1) (And.intro (by show t.acts[k].effs.length - (i + 1) < t.acts[k].effs.length - i; omega) (And.intro hi (And.intro rfl ?_)))
        show (⟨out, [(24, .box (cellsTask t)), (129000459, .row 4 1 ((((t.acts[k].effs.take i).foldl (negStep s) (bitsL (t.facts.map tS).length s)).map tB).set (0 + t.acts[k].effs[i].lit.fact.toNat) (tB false)))]⟩ : St) = _
        rw [Nat.zero_add, map_set', foldl_take hi, negStep, h2, h3]; rfl
      · refine And.intro (by omega) (And.intro (by omega) ?_)
        refine Exists.intro (i + 1) (And.intro (by show t.acts[k].effs.length - (i + 1) < t.acts[k].effs.length - i; omega) (And.intro hi (And.intro rfl ?_)))
        simp only [stay (by rw [h3, Bool.and_false])]
    · refine And.intro (by omega) (And.intro (by omega) ?_)
      refine Exists.intro (i + 1) (And.intro (by show t.acts[k].effs.length - (i + 1) < t.acts[k].effs.length - i; omega) (And.intro hi (And.intro rfl ?_)))
      simp only [stay (by rw [h2, Bool.false_and])]
  have hi : t.acts[k].effs.length ≤ i := ge_of_dec h1
  rw [List.take_of_length_le hi]
  refine And.intro (by omega) (Exists.intro _ (And.intro (get_map hk) ?_))
  have hneg : t.acts[k].effs.foldl (negStep s) (bitsL (t.facts.map tS).length s) = negAll t.facts.length s t.acts[k].effs := by rw [hfl]; rfl
  rw [hneg]
  have pl : ∀ i, ((t.acts[k].effs.take i).foldl (posStep s) (negAll t.facts.length s t.acts[k].effs)).length = t.facts.length := fun i => by rw [foldl_len (pos_len s), negAll, foldl_len (neg_len s), bitsL_length]
  clear h1 hi
  refine LoopW.mk Nat (fun i => i ≤ t.acts[k].effs.length) (fun i => [(1, .ints n1 s), (7, .osl (.cur 129000459) 1 0 (t.facts.map tS).length), (48, .t (.sl t.acts[k].en 3 (t.acts[k].effs.map tEff))), (49, .int (t.acts[k].effs.map tEff).length), (50, .int i)])
    (fun i => ⟨out, [(129000459, .row 4 1 (((t.acts[k].effs.take i).foldl (posStep s) (negAll t.facts.length s t.acts[k].effs)).map tB))]⟩) (fun i => t.acts[k].effs.length - i) 0 (Nat.zero_le _) ⟨rfl, rfl⟩ fun i hI => ?_
  refine And.intro (fun h1 => ?_) fun h1 => ?_
  · have hi := lt_of_dec h1
    have hin := TK.lit _ hmem _ (List.getElem_mem hi)
    have hnl := pl i
    have hft : t.acts[k].effs[i].lit.fact.toNat < ((t.acts[k].effs.take i).foldl (posStep s) (negAll t.facts.length s t.acts[k].effs)).length := by rw [hnl]; have := hin.1; have := hin.2; omega
    have stay : (!t.acts[k].effs[i].lit.neg && holdsB s t.acts[k].effs[i].when_) = false → (t.acts[k].effs.take (i + 1)).foldl (posStep s) (negAll t.facts.length s t.acts[k].effs) = (t.acts[k].effs.take i).foldl (posStep s) (negAll t.facts.length s t.acts[k].effs) := fun h => by rw [foldl_take hi, posStep, h]; rfl
    refine And.intro (by omega) (Exists.intro _ (And.intro (get_map hi) ?_))
    refine And.intro (fun h2 => ?_) fun h2 => ?_
    · refine And.intro (by omega) (And.intro (by omega) ?_)
      refine Exists.intro (i + 1) (And.intro (by show t.acts[k].effs.length - (i + 1) < t.acts[k].effs.length - i; omega) (And.intro hi (And.intro rfl ?_)))
      simp only [stay (by rw [h2]; rfl)]
    · refine SpecP.mono (f25_spec n1 t.acts[k].effs[i].nil s t.acts[k].effs[i].when_ []) ?_
      rintro _ _ ⟨rfl, rfl⟩
      refine And.intro (fun h3 => ?_) fun h3 => ?_
      · obtain ⟨y, hy⟩ := el_at hft
        refine And.intro hin.1 (And.intro (by rw [hfl]; exact hin.2) (Exists.intro (tB y) (And.intro hy (And.intro (Nat.le_refl 1) ?_))))
        refine And.intro (by omega) (And.intro (by omega) ?_)
        refine Exists.intro (i + 1) (And.intro (by show t.acts[k].effs.length - (i + 1) < t.acts[k].effs.length - i; omega) (And.intro hi (And.intro rfl ?_)))
        show (⟨out, [(129000459, .row 4 1 ((((t.acts[k].effs.take i).foldl (posStep s) (negAll t.facts.length s t.acts[k].effs)).map tB).set (0 + t.acts[k].effs[i].lit.fact.toNat) (tB true)))]⟩ : St) = _
        rw [Nat.zero_add, map_set', foldl_take hi, posStep, h2, h3]; rfl
      · refine And.intro (by omega) (And.intro (by omega) ?_)
        refine Exists.intro (i + 1) (And.intro (by show t.acts[k].effs.length - (i + 1) < t.acts[k].effs.length - i; omega) (And.intro hi (And.intro rfl ?_)))
        simp only [stay (by rw [h3, Bool.and_false])]
  have hi : t.acts[k].effs.length ≤ i := ge_of_dec h1
  have hpl := pl i
  rw [List.take_of_length_le hi] at hpl ⊢
  have hab : t.acts[k].effs.foldl (posStep s) (negAll t.facts.length s t.acts[k].effs) = afterBits t.facts.length s t.acts[k].effs := rfl
  rw [hab] at hpl ⊢
  refine Exists.intro ((afterBits t.facts.length s t.acts[k].effs).map tB) (And.intro (lend (by rw [hpl, hfl])) (And.intro (lend2 (by rw [hpl, hfl])) ?_))
  have m77 := f77_spec false (afterBits t.facts.length s t.acts[k].effs) (by omega)
  have haf : afterL t.facts.length s t.acts[k].effs = listL (afterBits t.facts.length s t.acts[k].effs) := rfl
  rw [haf]
  generalize listL (afterBits t.facts.length s t.acts[k].effs) = L at m77
  refine SpecP.mono (m77 _) ?_
  rintro _ _ ⟨rfl, rfl⟩
  cases L with
  | nil =>
    refine And.intro trivial (And.intro trivial ?_)
    exact Exists.intro [569001843] ⟨rfl, rfl⟩
  | cons x r =>
    refine And.intro trivial (And.intro ⟨flat_ints (b := x :: r), trivial⟩ ?_)
    exact Exists.intro [569001843] ⟨rfl, rfl⟩

end Go.Fw

/- Plans: the plain law. -/
namespace Go.Fw
open Go Go.Proofs

theorem listFrom_mem {x : Int} : ∀ {l : List Bool} {k : Nat}, x ∈ listFrom k l ↔ ∃ i, i < l.length ∧ l.getD i false = true ∧ x = ((k + i : Nat) : Int)
  | [], k => by simp [listFrom]
  | b :: r, k => by
    rw [listFrom, List.mem_append, listFrom_mem]
    constructor
    · rintro (h | ⟨i, hi, hb, hx⟩)
      · cases b with
        | false => simp at h
        | true => simp at h; exact ⟨0, by simp, rfl, by simpa using h⟩
      · exact ⟨i + 1, by simpa using hi, by simpa using hb, by rw [hx]; congr 1; omega⟩
    · rintro ⟨i, hi, hb, hx⟩
      cases i with
      | zero => simp at hb; subst hb; exact .inl (by simpa using hx)
      | succ i => exact .inr ⟨i, by simpa using hi, by simpa using hb, by rw [hx]; congr 1; omega⟩
theorem hasB_listL (b : List Bool) (f : Nat) : hasB (listL b) (f : Int) = b.getD f false := by
  rw [Bool.eq_iff_iff, hasB, List.any_eq_true]
  constructor
  · rintro ⟨x, hx, hf⟩
    obtain ⟨i, _, hb, rfl⟩ := listFrom_mem.1 hx
    have : i = f := by simp at hf; omega
    subst this; exact hb
  · intro hb
    refine ⟨(f : Int), listFrom_mem.2 ⟨f, ?_, hb, by simp⟩, by simp⟩
    rcases Nat.lt_or_ge f b.length with h | h
    · exact h
    · rw [List.getD_eq_getElem?_getD, List.getElem?_eq_none h] at hb; cases hb
theorem listL_in (b : List Bool) : ∀ x ∈ listL b, 0 ≤ x ∧ x < (b.length : Int) := fun x hx => by
  obtain ⟨i, hi, _, rfl⟩ := listFrom_mem.1 hx
  omega

def factsIn (n : Nat) (l : List Eff) : Prop := ∀ e ∈ l, litIn n e.lit
theorem lit_eq {l : Lit} {f : Nat} {v : Bool} (h0 : 0 ≤ l.fact) (h : l.fact.toNat = f) (hv : l.neg = v) : l = ⟨(f : Int), v⟩ := by
  cases l; simp at h0 h hv; simp [hv]; omega
theorem neg_true {s : List Int} {n f : Nat} : ∀ {l : List Eff} {b : List Bool}, factsIn n l → b.length = n → (l.foldl (negStep s) b).getD f false = true → b.getD f false = true
  | [], _, _, _, h => h
  | e :: r, b, hl, hb, h => by
    rw [List.foldl_cons] at h
    have := neg_true (fun x hx => hl x (List.mem_cons_of_mem _ hx)) (by rw [neg_len, hb]) h
    have hin := hl e (List.mem_cons_self ..)
    unfold negStep at this
    split at this
    · rw [getD_set (by have := hin.1; have := hin.2; omega)] at this
      split at this
      · cases this
      · exact this
    · exact this
theorem neg_false {s : List Int} {n f : Nat} : ∀ {l : List Eff} {b : List Bool}, factsIn n l → b.length = n → (l.foldl (negStep s) b).getD f false = false → b.getD f false = false ∨ ∃ e ∈ l, e.lit = ⟨(f : Int), true⟩ ∧ holdsB s e.when_ = true
  | [], _, _, _, h => .inl h
  | e :: r, b, hl, hb, h => by
    rw [List.foldl_cons] at h
    have hin := hl e (List.mem_cons_self ..)
    rcases neg_false (fun x hx => hl x (List.mem_cons_of_mem _ hx)) (by rw [neg_len, hb]) h with this | ⟨x, hx, h1⟩
    · unfold negStep at this
      split at this
      · rename_i hc
        rw [Bool.and_eq_true] at hc
        rw [getD_set (by have := hin.1; have := hin.2; omega)] at this
        split at this
        · rename_i hf; exact .inr ⟨e, List.mem_cons_self .., lit_eq hin.1 hf hc.1, hc.2⟩
        · exact .inl this
      · exact .inl this
    · exact .inr ⟨x, List.mem_cons_of_mem _ hx, h1⟩
theorem pos_false {s : List Int} {n f : Nat} : ∀ {l : List Eff} {b : List Bool}, factsIn n l → b.length = n → (l.foldl (posStep s) b).getD f false = false → b.getD f false = false
  | [], _, _, _, h => h
  | e :: r, b, hl, hb, h => by
    rw [List.foldl_cons] at h
    have := pos_false (fun x hx => hl x (List.mem_cons_of_mem _ hx)) (by rw [pos_len, hb]) h
    have hin := hl e (List.mem_cons_self ..)
    unfold posStep at this
    split at this
    · rw [getD_set (by have := hin.1; have := hin.2; omega)] at this
      split at this
      · cases this
      · exact this
    · exact this
theorem pos_true {s : List Int} {n f : Nat} : ∀ {l : List Eff} {b : List Bool}, factsIn n l → b.length = n → (l.foldl (posStep s) b).getD f false = true → b.getD f false = true ∨ ∃ e ∈ l, e.lit = ⟨(f : Int), false⟩ ∧ holdsB s e.when_ = true
  | [], _, _, _, h => .inl h
  | e :: r, b, hl, hb, h => by
    rw [List.foldl_cons] at h
    have hin := hl e (List.mem_cons_self ..)
    rcases pos_true (fun x hx => hl x (List.mem_cons_of_mem _ hx)) (by rw [pos_len, hb]) h with this | ⟨x, hx, h1⟩
    · unfold posStep at this
      split at this
      · rename_i hc
        rw [Bool.and_eq_true, Bool.not_eq_true'] at hc
        rw [getD_set (by have := hin.1; have := hin.2; omega)] at this
        split at this
        · rename_i hf; exact .inr ⟨e, List.mem_cons_self .., lit_eq hin.1 hf hc.1, hc.2⟩
        · exact .inl this
      · exact .inl this
    · exact .inr ⟨x, List.mem_cons_of_mem _ hx, h1⟩

theorem afterBits_len (n : Nat) (s : List Int) (l : List Eff) : (afterBits n s l).length = n := by
  rw [afterBits, foldl_len (pos_len s), negAll, foldl_len (neg_len s), bitsL_length]
theorem after_true {n : Nat} {s : List Int} {l : List Eff} {f : Nat} (hl : factsIn n l) (hs : ∀ x ∈ s, 0 ≤ x ∧ x < (n : Int)) (hf : f < n) (h : hasB (afterL n s l) (f : Int) = true) : hasB s (f : Int) = true ∨ ∃ e ∈ l, e.lit = ⟨(f : Int), false⟩ ∧ holdsB s e.when_ = true := by
  rw [afterL, hasB_listL] at h
  rcases pos_true hl (by rw [negAll, foldl_len (neg_len s), bitsL_length]) h with h | h
  · have := neg_true hl (bitsL_length _ _) h
    rw [bits_get hs hf] at this; exact .inl this
  · exact .inr h
theorem after_false {n : Nat} {s : List Int} {l : List Eff} {f : Nat} (hl : factsIn n l) (hs : ∀ x ∈ s, 0 ≤ x ∧ x < (n : Int)) (hf : f < n) (h : hasB (afterL n s l) (f : Int) = false) : hasB s (f : Int) = false ∨ ∃ e ∈ l, e.lit = ⟨(f : Int), true⟩ ∧ holdsB s e.when_ = true := by
  rw [afterL, hasB_listL] at h
  have h := pos_false hl (by rw [negAll, foldl_len (neg_len s), bitsL_length]) h
  rcases neg_false hl (bitsL_length _ _) h with h | h
  · rw [bits_get hs hf] at h; exact .inl h
  · exact .inr h
theorem after_in (n : Nat) (s : List Int) (l : List Eff) : ∀ x ∈ afterL n s l, 0 ≤ x ∧ x < (n : Int) := fun x hx => by
  have := listL_in _ x hx
  rwa [afterBits_len] at this

/-! ### Executing a list -/
def pAct (t : Task) (p : List Int) (i : Nat) : Actn := match t.acts[(p.getD i 0).toNat]? with
  | some x => x
  | none => ⟨⟨#[]⟩, 0, true, [], true, []⟩
def stAt (t : Task) (s p : List Int) : Nat → List Int
  | 0 => s
  | i + 1 => afterL t.facts.length (stAt t s p i) (pAct t p i).effs
def costAt (t : Task) (p : List Int) : Nat → Int
  | 0 => 0
  | i + 1 => costAt t p i + (pAct t p i).cost
def okAt (t : Task) (s p : List Int) (i : Nat) : Bool := holdsB (stAt t s p i) (pAct t p i).pre

theorem plan_get {t : Task} {p : List Int} (hp : planB t p = true) {i : Nat} (hi : i < p.length) : ∃ k : Nat, p[i] = (k : Int) ∧ ∃ hk : k < t.acts.length, pAct t p i = t.acts[k] ∧ t.acts[(p.getD i 0).toNat]? = some (pAct t p i) ∧ (p.getD i 0).toNat = k := by
  simp only [planB, Bool.and_eq_true, List.all_eq_true, decide_eq_true_eq] at hp
  have h := hp.2 _ (List.getElem_mem hi)
  have hg : p.getD i 0 = p[i] := by rw [List.getD_eq_getElem?_getD, List.getElem?_eq_getElem hi]; rfl
  have hk : p[i].toNat < t.acts.length := by omega
  refine ⟨p[i].toNat, by omega, hk, ?_, ?_, by rw [hg]⟩
  · rw [pAct, hg, List.getElem?_eq_getElem hk]
  · rw [pAct, hg, List.getElem?_eq_getElem hk]
theorem stAt_in {t : Task} {s p : List Int} (hs : ∀ x ∈ s, 0 ≤ x ∧ x < (t.facts.length : Int)) : ∀ i, ∀ x ∈ stAt t s p i, 0 ≤ x ∧ x < (t.facts.length : Int)
  | 0 => hs
  | _ + 1 => after_in _ _ _
theorem holds_one (s : List Int) (l : Lit) : holdsB s [l] = (hasB s l.fact != l.neg) := by simp [holdsB]
theorem holds_mem {s : List Int} {l : List Lit} (h : holdsB s l = true) : ∀ x ∈ l, holdsB s [x] = true := fun x hx => by
  rw [holds_one]; exact List.all_eq_true.1 h x hx

/-- What holds on the way is reached, if the effects that are met count. -/
theorem along {t : Task} {s p : List Int} {cnt : Nat → Lit → Bool} (TK : TaskOK t) (hs : ∀ x ∈ s, 0 ≤ x ∧ x < (t.facts.length : Int)) (hp : planB t p = true) (hok : ∀ i, i < p.length → okAt t s p i = true)
    (hc : ∀ i, i < p.length → ∀ e ∈ (pAct t p i).effs, holdsB (stAt t s p (i + 1)) [e.lit] = true → cnt (p.getD i 0).toNat e.lit = true) : ∀ i, i ≤ p.length → ∀ l, litIn t.facts.length l → holdsB (stAt t s p i) [l] = true → Rch t s cnt (codeI l).toNat := by
  intro i
  induction i with
  | zero =>
    intro _ l hl h
    obtain ⟨f, v⟩ := l
    obtain ⟨h0, h1⟩ := hl
    simp only at h0 h1
    obtain ⟨k, rfl⟩ : ∃ k : Nat, f = (k : Int) := ⟨f.toNat, by omega⟩
    rw [holds_one] at h
    cases v with
    | false =>
      have e : (codeI ⟨(k : Int), false⟩).toNat = 2 * k := by simp [codeI]; omega
      rw [e]
      refine .ini _ (by omega) ?_
      have e1 : 2 * k / 2 = k := by omega
      have e2 : 2 * k % 2 = 0 := by omega
      have h' : (hasB s (k : Int) != false) = true := h
      simpa [e1, e2] using h'
    | true =>
      have e : (codeI ⟨(k : Int), true⟩).toNat = 2 * k + 1 := by simp [codeI]; omega
      rw [e]
      refine .ini _ (by omega) ?_
      have e1 : (2 * k + 1) / 2 = k := by omega
      have e2 : (2 * k + 1) % 2 = 1 := by omega
      have h' : (hasB s (k : Int) != true) = true := h
      simpa [e1, e2] using h'
  | succ i ih =>
    intro hi l hl h
    have hi' : i < p.length := by omega
    obtain ⟨k, hk1, hk2, hk3, hk4, hk5⟩ := plan_get hp hi'
    have hmem : pAct t p i ∈ t.acts := by rw [hk3]; exact List.getElem_mem hk2
    have hfi : factsIn t.facts.length (pAct t p i).effs := fun e he => TK.lit _ hmem e he
    have hsi := stAt_in (t := t) (p := p) hs i
    have fire : ∀ e ∈ (pAct t p i).effs, e.lit = l → holdsB (stAt t s p i) e.when_ = true → Rch t s cnt (codeI l).toNat := fun e he hel hw => by
      rw [← hel]
      refine .eff _ _ e hk4 he (hc i hi' e he (by rw [hel]; exact h)) (fun x hx => ?_) fun x hx => ?_
      · exact ih (by omega) x (TK.pre _ hmem x hx) (holds_mem (hok i hi') x hx)
      · exact ih (by omega) x (TK.whn _ hmem e he x hx) (holds_mem hw x hx)
    obtain ⟨f, v⟩ := l
    obtain ⟨h0, h1⟩ := hl
    simp only at h0 h1
    obtain ⟨q, rfl⟩ : ∃ q : Nat, f = (q : Int) := ⟨f.toNat, by omega⟩
    have h' := h
    rw [holds_one] at h'
    cases v with
    | false =>
      have h2 : hasB (afterL t.facts.length (stAt t s p i) (pAct t p i).effs) (q : Int) = true := by simpa [stAt] using h'
      rcases after_true hfi hsi (by omega) h2 with h3 | ⟨e, he, hel, hw⟩
      · exact ih (by omega) _ ⟨h0, h1⟩ (by rw [holds_one, h3]; rfl)
      · exact fire e he hel hw
    | true =>
      have h2 : hasB (afterL t.facts.length (stAt t s p i) (pAct t p i).effs) (q : Int) = false := by simpa [stAt] using h'
      rcases after_false hfi hsi (by omega) h2 with h3 | ⟨e, he, hel, hw⟩
      · exact ih (by omega) _ ⟨h0, h1⟩ (by rw [holds_one, h3]; rfl)
      · exact fire e he hel hw

structure Valid (t : Task) (s p : List Int) : Prop where
  plan : planB t p = true
  ok : ∀ i, i < p.length → okAt t s p i = true
  goal : holdsB (stAt t s p p.length) t.goal = true

theorem valid_all {t : Task} {s p : List Int} {cnt : Nat → Lit → Bool} (TK : TaskOK t) (hs : ∀ x ∈ s, 0 ≤ x ∧ x < (t.facts.length : Int)) (hv : Valid t s p)
    (hc : ∀ i, i < p.length → ∀ e ∈ (pAct t p i).effs, holdsB (stAt t s p (i + 1)) [e.lit] = true → cnt (p.getD i 0).toNat e.lit = true) : allR t s cnt t.goal = true :=
  allR_iff.2 fun x hx => along TK hs hv.plan hv.ok hc p.length (Nat.le_refl _) x (TK.goal x hx) (holds_mem hv.goal x hx)

/-- A literal that is a landmark holds on the way. -/
theorem plan_lit {t : Task} {s p : List Int} (TK : TaskOK t) (hs : ∀ x ∈ s, 0 ≤ x ∧ x < (t.facts.length : Int)) (hv : Valid t s p) {k : Nat} (h : onlyL t s k = true) : ∃ i, i ≤ p.length ∧ holdsB (stAt t s p i) [litI k] = true := by
  refine Classical.byContradiction fun hno => ?_
  have hn : ∀ i, i ≤ p.length → holdsB (stAt t s p i) [litI k] = false := fun i hi => by
    cases hh : holdsB (stAt t s p i) [litI k] with
    | false => rfl
    | true => exact absurd ⟨i, hi, hh⟩ hno
  have h0 := hn 0 (Nat.zero_le _)
  have hall := valid_all (cnt := fun _ l => decide (l ≠ litI k)) TK hs hv fun i hi e he hh => by
    refine decide_eq_true fun hel => ?_
    have := hn (i + 1) hi
    rw [← hel, hh] at this; cases this
  rw [onlyL, hall] at h
  rw [show holdsB s [litI k] = false from h0] at h
  cases h
/-- Actions without which the goal is not reached: one of them is in the plan. -/
theorem plan_acts {t : Task} {s p : List Int} (TK : TaskOK t) (hs : ∀ x ∈ s, 0 ≤ x ∧ x < (t.facts.length : Int)) (hv : Valid t s p) {acts : List Int} (h : allR t s (cntO acts) t.goal = false) : ∃ y ∈ acts, hasB p y = true := by
  refine Classical.byContradiction fun hno => ?_
  have hall := valid_all (cnt := cntO acts) TK hs hv fun i hi e he hh => by
    obtain ⟨k, hk1, _, _, _, hk5⟩ := plan_get hv.plan hi
    rw [cntO, hk5]
    cases hb : hasB acts (k : Int) with
    | false => rfl
    | true =>
      obtain ⟨y, hy, hyk⟩ := List.any_eq_true.1 hb
      have hyk : y = (k : Int) := by simpa using hyk
      exact absurd ⟨y, hy, List.any_eq_true.2 ⟨p[i], List.getElem_mem hi, by rw [hk1, hyk]; simp⟩⟩ hno
  rw [hall] at h; cases h
theorem plan_some {t : Task} {s p : List Int} (TK : TaskOK t) (hs : ∀ x ∈ s, 0 ≤ x ∧ x < (t.facts.length : Int)) (hv : Valid t s p) : allR t s (cntO []) t.goal = true := valid_all TK hs hv fun _ _ _ _ _ => rfl

/-! ### Sums -/
def sumTo : Nat → (Nat → Int) → Int
  | 0, _ => 0
  | n + 1, f => sumTo n f + f n
theorem sumTo_le {f g : Nat → Int} : ∀ {n : Nat}, (∀ a, a < n → f a ≤ g a) → sumTo n f ≤ sumTo n g
  | 0, _ => Int.le_refl _
  | n + 1, h => by have h1 := sumTo_le (n := n) fun a ha => h a (by omega); have := h n (by omega); simp only [sumTo]; omega
theorem sumTo_add (f g : Nat → Int) : ∀ n : Nat, sumTo n (fun a => f a + g a) = sumTo n f + sumTo n g
  | 0 => rfl
  | n + 1 => by simp only [sumTo, sumTo_add f g n]; omega
theorem sumTo_zero {f : Nat → Int} : ∀ {n : Nat}, (∀ a, a < n → f a = 0) → sumTo n f = 0
  | 0, _ => rfl
  | n + 1, h => by have h1 := sumTo_zero (f := f) (n := n) fun a ha => h a (by omega); have h2 := h n (by omega); simp only [sumTo]; omega
theorem sumTo_one {f : Nat → Int} {k : Nat} : ∀ {n : Nat}, k < n → sumTo n (fun a => if k = a then f a else 0) = f k
  | 0, h => by omega
  | n + 1, h => by
    simp only [sumTo]
    by_cases hk : k = n
    · subst hk
      rw [sumTo_zero fun a ha => by rw [if_neg (by omega)], if_pos rfl]; omega
    · rw [sumTo_one (n := n) (by omega), if_neg hk]; omega
theorem sumTo_term {f : Nat → Int} {k n : Nat} (hk : k < n) (h : ∀ a, a < n → 0 ≤ f a) : f k ≤ sumTo n f := by
  rw [← sumTo_one (f := f) hk]
  refine sumTo_le fun a ha => ?_
  split
  · exact Int.le_refl _
  · exact h a ha

def total : List CutX → Int
  | [] => 0
  | c :: r => c.cost + total r
theorem total_append (l m : List CutX) : total (l ++ m) = total l + total m := by
  induction l with
  | nil => simp [total]
  | cons c r ih => simp only [List.cons_append, total, ih]; omega
def inP (p : List Int) (a : Nat) (v : Int) : Int := if hasB p (a : Int) = true then v else 0
theorem total_le {t : Task} {p : List Int} : ∀ {l : List CutX}, (∀ c ∈ l, 1 ≤ c.cost ∧ ∃ k : Nat, k < t.acts.length ∧ hasB c.acts (k : Int) = true ∧ hasB p (k : Int) = true) → total l ≤ sumTo t.acts.length fun a => inP p a (paid l a)
  | [], _ => by
    rw [sumTo_zero fun a _ => by simp [inP, paid]]
    exact Int.le_refl _
  | c :: r, h => by
    have ih := total_le fun x hx => h x (List.mem_cons_of_mem _ hx)
    obtain ⟨hc, k, hk, hk1, hk2⟩ := h c (List.mem_cons_self ..)
    have e : (fun a => inP p a (paid (c :: r) a)) = fun a => inP p a (pay c a) + inP p a (paid r a) := by
      funext a; simp only [inP, paid]; split <;> omega
    rw [e, sumTo_add, total]
    have h1 : c.cost ≤ sumTo t.acts.length fun a => inP p a (pay c a) := by
      have hn : ∀ a, a < t.acts.length → 0 ≤ inP p a (pay c a) := fun a _ => by
        simp only [inP, pay]
        split
        · split
          · omega
          · exact Int.le_refl _
        · exact Int.le_refl _
      have h2 := sumTo_term (f := fun a => inP p a (pay c a)) hk hn
      have h3 : inP p k (pay c k) = c.cost := by simp only [inP, pay, hk1, hk2, if_true]
      simp only [h3] at h2
      exact h2
    omega
theorem cost_ge {t : Task} {p : List Int} (TK : TaskOK t) (hp : planB t p = true) : ∀ i, i ≤ p.length → (sumTo t.acts.length fun a => inP (p.take i) a (costA t a)) ≤ costAt t p i
  | 0, _ => by
    rw [sumTo_zero fun a _ => by simp [inP, hasB]]
    exact Int.le_refl _
  | i + 1, hi => by
    have hi' : i < p.length := by omega
    obtain ⟨k, hk1, hk2, hk3, _⟩ := plan_get hp hi'
    have ih := cost_ge TK hp i (by omega)
    have h1 : (sumTo t.acts.length fun a => inP (p.take (i + 1)) a (costA t a)) ≤ sumTo t.acts.length fun a => inP (p.take i) a (costA t a) + if k = a then costA t a else 0 := by
      refine sumTo_le fun a ha => ?_
      have hc : 0 ≤ costA t a := by rw [costA_get ha]; exact (TK.cost _ (List.getElem_mem ha)).1
      simp only [inP, hasB_take hi', hk1]
      by_cases hka : k = a
      · subst hka
        simp only [beq_self_eq_true, Bool.or_true, if_true]
        split <;> omega
      · have : ((k : Int) == (a : Int)) = false := by simp; omega
        simp only [this, Bool.or_false, hka, if_false]
        omega
    rw [sumTo_add, sumTo_one hk2] at h1
    rw [costAt, hk3]
    rw [costA_get hk2] at h1
    omega
/-- Right cuts together cost no more than the plan. -/
theorem plan_cost {t : Task} {s p : List Int} (TK : TaskOK t) (hs : ∀ x ∈ s, 0 ≤ x ∧ x < (t.facts.length : Int)) (hv : Valid t s p) {l : List CutX} (hr : rightB t s l = true) : total l ≤ costAt t p p.length := by
  obtain ⟨h1, h2⟩ := right_parts hr
  have h3 : total l ≤ sumTo t.acts.length fun a => inP p a (paid l a) := total_le fun c hc => by
    obtain ⟨g1, _, g3, g4⟩ := okC_cost (h1 c hc)
    obtain ⟨y, hy, hyp⟩ := plan_acts TK hs hv g4
    have hin := rising_in g3 y hy
    refine ⟨g1, y.toNat, by omega, ?_, ?_⟩
    · exact List.any_eq_true.2 ⟨y, hy, by simp; omega⟩
    · rw [show ((y.toNat : Nat) : Int) = y by omega]; exact hyp
  have h4 : (sumTo t.acts.length fun a => inP p a (paid l a)) ≤ sumTo t.acts.length fun a => inP p a (costA t a) := sumTo_le fun a ha => by
    have := h2 a ha
    simp only [inP]; split <;> omega
  have h5 := cost_ge TK hv.plan p.length (Nat.le_refl _)
  rw [List.take_length] at h5
  omega

end Go.Fw

/- What the program's functions do, part 36: plans are executed. -/
namespace Go.Fw
open Go Go.Proofs
set_option maxRecDepth 10000

theorem conv_first {x y : LV} {r : List LV} (hxy : ∀ (β : K → Nat) (RO : Nat → Prop) (w : World) (v : Value), VL β RO w x v → VL β RO w y v) : ∀ (β : K → Nat) (RO : Nat → Prop) (w : World) (vals : List Value), Vals β RO w (x :: r) vals → Vals β RO w (y :: r) vals := fun β RO w vals hv =>
  ⟨hv.1, fun i z v hz hvz => by
    cases i with
    | zero => simp at hz; subst hz; exact hxy β RO w v (hv.2 0 x v rfl hvz)
    | succ i => exact hv.2 (i + 1) z v hz hvz⟩
theorem conv_second {a x y : LV} {r : List LV} (hxy : ∀ (β : K → Nat) (RO : Nat → Prop) (w : World) (v : Value), VL β RO w x v → VL β RO w y v) : ∀ (β : K → Nat) (RO : Nat → Prop) (w : World) (vals : List Value), Vals β RO w (a :: x :: r) vals → Vals β RO w (a :: y :: r) vals := fun β RO w vals hv =>
  ⟨hv.1, fun i z v hz hvz => by
    match i with
    | 0 => exact hv.2 0 z v hz hvz
    | 1 => simp at hz; subst hz; exact hxy β RO w v (hv.2 1 x v rfl hvz)
    | i + 2 => exact hv.2 (i + 2) z v hz hvz⟩

def stRows (t : Task) (s p : List Int) (k : Nat) : List (List T) := (List.range (k + 1)).map fun j => [sT (stAt t s p j)]
theorem stRows_len (t : Task) (s p : List Int) (k : Nat) : (stRows t s p k).length = k + 1 := by simp [stRows]
theorem stRows_step (t : Task) (s p : List Int) (k : Nat) : stRows t s p (k + 1) = stRows t s p k ++ [[sT (stAt t s p (k + 1))]] := by
  rw [stRows, List.range_succ, List.map_append]; rfl
theorem stRows_get {t : Task} {s p : List Int} {k j : Nat} (h : j ≤ k) : (stRows t s p k)[j]? = some [sT (stAt t s p j)] := by
  rw [stRows, List.getElem?_map, List.getElem?_range (by omega)]; rfl
theorem costAt_in {t : Task} {p : List Int} (TK : TaskOK t) (hp : planB t p = true) : ∀ i, i ≤ p.length → 0 ≤ costAt t p i ∧ costAt t p i ≤ 100000 * (i : Int)
  | 0, _ => by simp [costAt]
  | i + 1, hi => by
    have := costAt_in TK hp i (by omega)
    obtain ⟨k, _, hk2, hk3, _⟩ := plan_get hp (show i < p.length by omega)
    have hc := TK.cost _ (List.getElem_mem hk2)
    rw [costAt, hk3]; omega

def kp23 : Kp := [(3, ([3, 6, 7, 15, 16, 17], [24, 112]))]
theorem f23_spec (t : Task) (n1 n2 : Bool) (s p : List Int) (TK : TaskOK t) (hs : risingB s t.facts.length = true) (hp : planB t p = true) (out : List Fr) :
    SpecP Try.prog 23 [.task t, .ints n1 s, .ints n2 p] out fun r ro => ∃ (k : Nat) (at_ : Int), k ≤ p.length ∧ (∀ i, i < k → okAt t s p i = true) ∧ ((k = p.length ∧ at_ = -1) ∨ (k < p.length ∧ okAt t s p k = false ∧ at_ = (k : Int))) ∧
      r = .tup [.osl (.cur 112) 1 0 (stRows t s p k).length, .int (costAt t p k), .int at_] ∧ ro = [(112, .row 23 1 (stRows t s p k))] := by
  refine spec_body cx_ok kp23 [] (fn := Try.f23) (by kernel_rfl) rfl (by kernel_rfl) rfl (by unfold FnOK; kernel_rfl) fun hok => ?_
  have hin := rising_in hs
  have hN := TK.facts
  have hsl := rising_len hs (by omega)
  have hpl : p.length ≤ 10000 := by simp only [planB, Bool.and_eq_true, decide_eq_true_eq] at hp; exact hp.1
  have h00 : stRows t s p 0 = [[sT s]] := rfl
  cases hcs : s
  case' nil =>
    refine LoopW.mk Nat (fun i => i ≤ p.length ∧ ∀ j, j < i → okAt t s p j = true) (fun i => [(3, .ptr (.cur 24) 0), (6, .osl (.cur 112) 1 0 (stRows t s p i).length), (7, .int (costAt t p i)), (15, .ints n2 p), (16, .int (p.map tI).length), (17, .int i)])
      (fun i => ⟨out, [(24, .box (cellsTask t)), (112, .row 23 1 (stRows t s p i))]⟩) (fun i => p.length - i) 0 ⟨Nat.zero_le _, fun j hj => by omega⟩ ⟨rfl, by rw [h00, hcs]; rfl⟩ fun i hI => ?_
  case' cons x r =>
    have hl' : (tI x :: r.map tI).length = s.length := by rw [hcs]; simp
    refine And.intro (by rw [hl']; show s.length * 8 ≤ 140737488355328; omega) (And.intro (by rw [hl']; omega) ?_)
    refine And.intro (by simp) ?_
    refine LoopW.mk Nat (fun i => i ≤ p.length ∧ ∀ j, j < i → okAt t s p j = true) (fun i => [(3, .ptr (.cur 24) 0), (6, .osl (.cur 112) 1 0 (stRows t s p i).length), (7, .int (costAt t p i)), (15, .ints n2 p), (16, .int (p.map tI).length), (17, .int i)])
      (fun i => ⟨out, [(24, .box (cellsTask t)), (112, .row 23 1 (stRows t s p i))]⟩) (fun i => p.length - i) 0 ⟨Nat.zero_le _, fun j hj => by omega⟩ ⟨rfl, ?_⟩ fun i hI => ?_
    · rw [h00, hcs]
      show (⟨out, [(24, .box (cellsTask t)), (112, .row 23 1 [[.sl false 1 ((((x :: r).map tI).drop 0).take ((x :: r).map tI).length)]])]⟩ : St) = _
      rw [← take_all]; rfl
  all_goals
    have hlen := stRows_len t s p i
    refine And.intro (fun h1 => ?_) fun h1 => ?_
    · have hi := lt_of_dec h1
      obtain ⟨k, hk1, hk2, hk3, _⟩ := plan_get hp hi
      have hci := costAt_in TK hp i hI.1
      have hc := TK.cost _ (List.getElem_mem hk2)
      have hsi := stAt_in (t := t) (p := p) hin i
      refine And.intro (by omega) (Exists.intro (tI k) (And.intro (by rw [← hk1]; exact get_map hi) ?_))
      refine And.intro (by omega) (And.intro (by omega) ?_)
      refine And.intro (by omega) (And.intro (by omega) (Exists.intro [sT (stAt t s p i)] (And.intro (by rw [show 0 + (((stRows t s p i).length : Int) - 1).toNat = i by omega]; exact stRows_get (Nat.le_refl i)) ?_)))
      refine And.intro (by omega) (Exists.intro _ (And.intro (get_map hk2) ?_))
      refine SpecP.conv (conv_first fun _ _ _ _ => sT_vl) (SpecP.mono (f25_spec (stAt t s p i).isEmpty t.acts[k].pn (stAt t s p i) t.acts[k].pre []) ?_)
      rintro _ _ ⟨rfl, rfl⟩
      have hokk : okAt t s p i = holdsB (stAt t s p i) t.acts[k].pre := by rw [okAt, hk3]
      refine And.intro (fun h2 => ?_) fun h2 => ?_
      rotate_left
      · exact Exists.intro [112] (by rw [← hcs]; exact ⟨i, (i : Int), hI.1, hI.2, .inr ⟨hi, by rw [hokk, h2], rfl⟩, rfl, rfl⟩)
      refine SpecP.conv (conv_second fun _ _ _ _ => sT_vl) (SpecP.mono (f41_spec t (stAt t s p i).isEmpty (stAt t s p i) k TK hsi hk2 []) ?_)
      rintro _ _ ⟨rfl, rfl⟩
      have hst : stAt t s p (i + 1) = afterL t.facts.length (stAt t s p i) t.acts[k].effs := by rw [stAt, hk3]
      have hrow : stRows t s p i ++ [[sT (afterL t.facts.length (stAt t s p i) t.acts[k].effs)]] = stRows t s p (i + 1) := by rw [stRows_step, hst]
      have hl2 : (stRows t s p i ++ [[sT (afterL t.facts.length (stAt t s p i) t.acts[k].effs)]]).length = i + 2 := by rw [hrow, stRows_len]
      refine And.intro (Nat.le_of_ble_eq_true rfl) (And.intro rfl (And.intro (by show (stRows t s p i ++ [[sT (afterL t.facts.length (stAt t s p i) t.acts[k].effs)]]).length * 24 ≤ _; omega) (And.intro (by show (stRows t s p i ++ [[sT (afterL t.facts.length (stAt t s p i) t.acts[k].effs)]]).length ≤ _; omega) ?_)))
      refine And.intro (by omega) (Exists.intro _ (And.intro (get_map hk2) ?_))
      refine And.intro (by omega) (And.intro (by omega) ?_)
      refine And.intro (by omega) (And.intro (by omega) ?_)
      refine Exists.intro (i + 1) (And.intro (by show p.length - (i + 1) < p.length - i; omega) (And.intro ⟨hi, fun j hj => ?_⟩ ?_))
      · rcases Nat.lt_or_ge j i with h | h
        · exact hI.2 j h
        · rw [show j = i by omega, hokk, h2]
      · have hcost : costAt t p (i + 1) = costAt t p i + t.acts[k].cost := by rw [costAt, hk3]
        simp only [hcost, ← hrow]
        exact And.intro rfl rfl
    · have hi : i = p.length := by have := hI.1; have := ge_of_dec h1; omega
      exact Exists.intro [112] (by rw [← hcs]; exact ⟨i, -1, hI.1, hI.2, .inl ⟨hi, rfl⟩, rfl, rfl⟩)

def od22 : Od := [(4, [(0, .pure), (1, .pure), (2, .pure), (3, .pure), (4, .pure), (5, .pure), (6, .pure), (7, .pure), (8, .pure), (9, .pure), (10, .pure), (11, .eff), (12, .pure), (13, .pure)])]
theorem f22_spec (t : Task) (n1 n2 : Bool) (s p : List Int) (TK : TaskOK t) (hs : risingB s t.facts.length = true) (out : List Fr) :
    SpecP Try.prog 22 [.task t, .ints n1 s, .ints n2 p] out fun r ro => (¬ Valid t s p ∧ r = .tup [.int 0, .bool false] ∧ ro = []) ∨ (Valid t s p ∧ r = .tup [.int (costAt t p p.length), .bool true] ∧ ro = []) := by
  refine spec_body cx_ok [] od22 (fn := Try.f22) (by kernel_rfl) rfl (by kernel_rfl) rfl (by unfold FnOK; kernel_rfl) fun hok => ?_
  refine SpecP.mono (f44_spec t n2 p []) ?_
  rintro _ _ ⟨rfl, rfl⟩
  refine And.intro (fun hp => ?_) fun hp => ?_
  rotate_left
  · exact Exists.intro [] (.inl ⟨fun hv => (by rw [hv.plan] at hp; cases hp), rfl, rfl⟩)
  refine SpecP.mono (f23_spec t n1 n2 s p TK hs hp []) ?_
  rintro _ _ ⟨k, at_, hk, hok1, hor, rfl, rfl⟩
  have hpl : p.length ≤ 10000 := by simp only [planB, Bool.and_eq_true, decide_eq_true_eq] at hp; exact hp.1
  have hlen := stRows_len t s p k
  refine And.intro (fun h1 => ?_) fun h1 => ?_
  · have h1 := of_decide_eq_true h1
    rcases hor with ⟨_, rfl⟩ | ⟨hkl, hno, _⟩
    · omega
    · exact Exists.intro [] (.inl ⟨fun hv => (by rw [hv.ok k hkl] at hno; cases hno), rfl, rfl⟩)
  have h1 := of_decide_eq_false h1
  rcases hor with ⟨hkl, rfl⟩ | ⟨_, _, rfl⟩
  rotate_left
  · omega
  subst hkl
  refine And.intro (by omega) (And.intro (by omega) ?_)
  refine And.intro (by omega) (And.intro (by omega) (Exists.intro [sT (stAt t s p p.length)] (And.intro (by rw [show 0 + (((stRows t s p p.length).length : Int) - 1).toNat = p.length by omega]; exact stRows_get (Nat.le_refl _)) ?_)))
  refine SpecP.conv (conv_first fun _ _ _ _ => sT_vl) (SpecP.mono (f25_spec (stAt t s p p.length).isEmpty t.gn (stAt t s p p.length) t.goal []) ?_)
  rintro _ _ ⟨rfl, rfl⟩
  refine And.intro ⟨rfl, rfl, rfl⟩ ?_
  refine And.intro (fun h2 => ?_) fun h2 => ?_
  · exact Exists.intro [] (.inr ⟨⟨hp, hok1, h2⟩, rfl, rfl⟩)
  · exact Exists.intro [] (.inl ⟨fun hv => (by rw [hv.goal] at h2; cases h2), rfl, rfl⟩)

end Go.Fw

/- What the law MarkPlans does: it answers true. -/
namespace Go.Fw
open Go Go.Proofs
set_option maxRecDepth 10000

noncomputable def factsF (t : Task) (s : List Int) : List Lit := (selI (2 * t.facts.length) (onlyL t s)).map litI
theorem f15u_spec (t : Task) (n1 : Bool) (s : List Int) (h0 : fineI t s = 0) (out : List Fr) : SpecP Try.prog 15 [.task t, .ints n1 s] out fun r ro => r = .tup [.lits ((factsF t s).map tLit).isEmpty (factsF t s), .int 0] ∧ ro = [] :=
  (f15_spec t n1 s out).close fun r ro h => by
    rcases h with ⟨h, _⟩ | ⟨_, rfl, rfl⟩
    · exact absurd h0 h
    · exact ⟨_, .pair _ _ _ _ (acc_cls (e := 50) fun x r h => by rw [h]; rfl) (.same _), rfl, rfl⟩
theorem f16u_spec (t : Task) (n1 : Bool) (s : List Int) (h0 : fineI t s = 0) (out : List Fr) : SpecP Try.prog 16 [.task t, .ints n1 s] out fun r ro => r = .tup [.ints ((selI t.acts.length (onlyA t s)).map tI).isEmpty (selI t.acts.length (onlyA t s)), .int 0] ∧ ro = [] :=
  (f16_spec t n1 s out).close fun r ro h => by
    rcases h with ⟨h, _⟩ | ⟨_, rfl, rfl⟩
    · exact absurd h0 h
    · exact ⟨_, .pair _ _ _ _ (acc_cls (e := 3) fun x r h => by rw [h]; rfl) (.same _), rfl, rfl⟩
theorem f24u_spec (t : Task) (n1 : Bool) (s : List Int) (h0 : fineI t s = 0) (hall : allR t s (cntO []) t.goal = true) (out : List Fr) : SpecP Try.prog 24 [.task t, .ints n1 s] out fun r ro => ∃ (L : List CutD) (b : Bool), CutRun t s (t.acts.map (·.cost)) L ∧ r = .tup [.cuts b (L.map cX), .int 0] ∧ ro = [] :=
  (f24_spec t n1 s out).close fun r ro h => by
    rcases h with ⟨h, _⟩ | ⟨_, h, _⟩ | ⟨_, _, L, hL, rfl, rfl⟩
    · exact absurd h0 h
    · rw [hall] at h; cases h
    · refine ⟨_, .pair _ _ _ _ (acc_cls (e := 54) fun x r h => by rw [h]; rfl) (.same _), L, (L.map tCut).isEmpty, hL, ?_, rfl⟩
      show LV.tup [.t (.sl _ 2 (L.map tCut)), .int 0] = LV.tup [.t (.sl _ 2 ((L.map cX).map tCutX)), .int 0]
      rw [tCut_cX]
theorem f23u_spec (t : Task) (n1 n2 : Bool) (s p : List Int) (TK : TaskOK t) (hs : risingB s t.facts.length = true) (hv : Valid t s p) (out : List Fr) :
    SpecP Try.prog 23 [.task t, .ints n1 s, .ints n2 p] out fun r ro => r = .tup [.t (.sl false 1 (stRows t s p p.length)), .int (costAt t p p.length), .int (-1)] ∧ ro = [] :=
  (f23_spec t n1 n2 s p TK hs hv.plan out).close fun r ro h => by
    obtain ⟨k, at_, hk, _, hor, rfl, rfl⟩ := h
    rcases hor with ⟨rfl, rfl⟩ | ⟨hkl, hno, _⟩
    · refine ⟨_, .triple _ _ _ _ _ _ (.row 112 23 1 0 _ (stRows t s p p.length) rfl (by simp)) (.same _) (.same _), ?_, rfl⟩
      rw [← take_all]; rfl
    · rw [hv.ok k hkl] at hno; cases hno

theorem total_in {l : List CutX} (h : ∀ c ∈ l, 0 ≤ c.cost ∧ c.cost ≤ 100000) : 0 ≤ total l ∧ total l ≤ 100000 * (l.length : Int) := by
  induction l with
  | nil => simp [total]
  | cons c r ih =>
    have h1 := h c (List.mem_cons_self ..)
    have h2 := ih fun x hx => h x (List.mem_cons_of_mem _ hx)
    simp only [total, List.length_cons]; omega
theorem total_take {l : List CutX} {i : Nat} (hi : i < l.length) : total (l.take (i + 1)) = total (l.take i) + l[i].cost := by
  rw [List.take_add_one, List.getElem?_eq_getElem hi, Option.toList_some, total_append]; simp [total]

def kp4 : Kp := [(13, ([2, 7, 9, 14, 16, 97, 98, 99], [])), (17, ([2, 7, 9, 14, 16, 19, 20, 97, 98, 99, 103, 104, 105], [152])), (25, ([2, 7, 16, 120, 121, 122], [])), (32, ([2, 7, 25, 131, 132, 133], [])), (36, ([2, 7, 25, 27, 28, 131, 132, 133, 138, 139, 140], [216]))]
theorem f4_spec (t : Task) (n1 n2 : Bool) (s p : List Int) (out : List Fr) : SpecP Try.prog 4 [.task t, .ints n1 s, .ints n2 p] out fun r ro => r = .bool true ∧ ro = [] := by
  refine spec_body cx_ok kp4 [] (fn := Try.f4) (by kernel_rfl) rfl (by kernel_rfl) rfl (by unfold FnOK; kernel_rfl) fun hok => ?_
  refine SpecP.mono (f13_spec t 200 []) ?_
  rintro _ _ ⟨few, rfl, rfl⟩
  refine And.intro (fun h1 => ?_) fun h1 => ?_
  rotate_left
  · refine SpecP.mono (f14_spec []) ?_
    rintro _ _ ⟨rfl, rfl⟩
    refine And.intro (fun _ => ?_) fun h => Bool.noConfusion h
    exact Exists.intro [] (ret_bool rfl rfl)
  refine And.intro (fun h2 => ?_) fun h2 => ?_
  · refine SpecP.mono (f14_spec []) ?_
    rintro _ _ ⟨rfl, rfl⟩
    refine And.intro (fun _ => ?_) fun h => Bool.noConfusion h
    exact Exists.intro [] (ret_bool rfl rfl)
  refine And.intro (fun h2 => ?_) fun h2 => ?_
  · refine SpecP.mono (f14_spec []) ?_
    rintro _ _ ⟨rfl, rfl⟩
    refine And.intro (fun _ => ?_) fun h => Bool.noConfusion h
    exact Exists.intro [] (ret_bool rfl rfl)
  refine SpecP.mono (f17_spec t n1 s []) ?_
  rintro _ _ ⟨rfl, rfl⟩
  refine And.intro (fun h0 => ?_) fun h0 => ?_
  · refine SpecP.mono (f14_spec []) ?_
    rintro _ _ ⟨rfl, rfl⟩
    refine And.intro (fun _ => ?_) fun h => Bool.noConfusion h
    exact Exists.intro [] (ret_bool rfl rfl)
  have h0 : fineI t s = 0 := by simpa using h0
  obtain ⟨ht, hs⟩ := hts_of h0
  have TK := task_ok ht
  have hin := rising_in hs
  have hA := TK.acts
  have hN := TK.facts
  refine SpecP.mono (f22_spec t n1 n2 s p TK hs []) ?_
  rintro _ _ (⟨_, rfl, rfl⟩ | ⟨hv, rfl, rfl⟩)
  · refine And.intro (fun h => Bool.noConfusion h) fun _ => ?_
    refine SpecP.mono (f14_spec []) ?_
    rintro _ _ ⟨rfl, rfl⟩
    refine And.intro (fun _ => ?_) fun h => Bool.noConfusion h
    exact Exists.intro [] (ret_bool rfl rfl)
  refine And.intro (fun _ => ?_) fun h => Bool.noConfusion h
  have hall := plan_some TK hin hv
  have hpl : p.length ≤ 10000 := by have := hv.plan; simp only [planB, Bool.and_eq_true, decide_eq_true_eq] at this; exact this.1
  refine SpecP.mono (f23u_spec t n1 n2 s p TK hs hv []) ?_
  rintro _ _ ⟨rfl, rfl⟩
  refine SpecP.mono (f15u_spec t n1 s h0 []) ?_
  rintro _ _ ⟨rfl, rfl⟩
  refine SpecP.mono (f16u_spec t n1 s h0 []) ?_
  rintro _ _ ⟨rfl, rfl⟩
  refine SpecP.mono (f24u_spec t n1 s h0 hall []) ?_
  rintro _ _ ⟨L, bX, hL, rfl, rfl⟩
  have hrr := run_right hall hL (restOK0 TK) [] (fun c hc => by cases hc) (Left_.zero TK)
  have hln := run_len hall hL (restOK0 TK)
  have hcp := List.countP_le_length (p := fun x : Int => decide (x > 0)) (l := t.acts.map (·.cost))
  have hXl : (L.map cX).length ≤ 1000 := by rw [List.length_map] at hcp ⊢; omega
  rw [List.nil_append] at hrr
  have hcost := plan_cost TK hin hv hrr.1
  generalize L.map cX = X at hrr hXl hcost
  have hoks := (right_parts hrr.1).1
  have hbig := costAt_in TK hv.plan p.length (Nat.le_refl _)
  have hFl : (factsF t s).length ≤ 400 := by
    rw [factsF, List.length_map]; exact Nat.le_trans (selI_len _ _) (by omega)
  have hFm : ∀ x ∈ factsF t s, ∃ q, q ≤ p.length ∧ holdsB (stAt t s p q) [x] = true := fun x hx => by
    obtain ⟨y, hy, rfl⟩ := List.mem_map.1 hx
    obtain ⟨k, rfl, _, hk⟩ := selI_mem hy
    exact plan_lit TK hin hv hk
  generalize factsF t s = F at hFl hFm
  have hAl : (selI t.acts.length (onlyA t s)).length ≤ 1000 := Nat.le_trans (selI_len _ _) hA
  have hAm : ∀ x ∈ selI t.acts.length (onlyA t s), hasB p x = true := fun x hx => by
    obtain ⟨k, rfl, _, hk⟩ := selI_mem hx
    have hk' : allR t s (cntO [(k : Int)]) t.goal = false := by simpa [onlyA] using hk
    obtain ⟨y, hy, hyp⟩ := plan_acts TK hin hv hk'
    simp at hy; rw [← hy]; exact hyp
  generalize selI t.acts.length (onlyA t s) = A at hAl hAm
  have hXm : ∀ c ∈ X, ∃ y ∈ c.acts, hasB p y = true := fun c hc => plan_acts TK hin hv (okC_cost (hoks c hc)).2.2.2
  have hrl := stRows_len t s p p.length
  refine And.intro (fun h => absurd h (by decide)) fun _ => ?_
  refine And.intro (fun h => absurd h (by decide)) fun _ => ?_
  refine And.intro (fun h => absurd h (by decide)) fun _ => ?_
  refine LoopW.mk Nat (fun i => i ≤ F.length) (fun i => [(2, .ints n2 p), (7, .int (costAt t p p.length)), (9, .t (.sl false 1 (stRows t s p p.length))), (14, .ints (A.map tI).isEmpty A), (16, .cuts bX X), (97, .lits (F.map tLit).isEmpty F), (98, .int (F.map tLit).length), (99, .int i)])
    (fun _ => ⟨out, []⟩) (fun i => F.length - i) 0 (Nat.zero_le _) ⟨rfl, rfl⟩ fun i hi0 => ?_
  refine And.intro (fun h3 => ?_) fun h3 => ?_
  · have hi := lt_of_dec h3
    obtain ⟨q, hq, hqh⟩ := hFm _ (List.getElem_mem hi)
    refine And.intro (by omega) (Exists.intro _ (And.intro (get_map hi) ?_))
    refine LoopW.mk (Nat × Bool) (fun u => u.1 ≤ p.length + 1 ∧ u.2 = (List.range u.1).any fun j => holdsB (stAt t s p j) [F[i]])
      (fun u => [(2, .ints n2 p), (7, .int (costAt t p p.length)), (9, .t (.sl false 1 (stRows t s p p.length))), (14, .ints (A.map tI).isEmpty A), (16, .cuts bX X), (19, .ptr (.cur 152) 0), (20, .bool u.2), (97, .lits (F.map tLit).isEmpty F), (98, .int (F.map tLit).length), (99, .int i), (103, .t (.sl false 1 (stRows t s p p.length))), (104, .int (stRows t s p p.length).length), (105, .int u.1)])
      (fun _ => ⟨out, [(152, .box [.t (.v (.int .i64 F[i].fact)), .t (.v (.bool F[i].neg))])]⟩) (fun u => p.length + 1 - u.1) (0, false) ⟨Nat.zero_le _, rfl⟩ ⟨rfl, rfl⟩ ?_
    rintro ⟨j, met⟩ ⟨hj0, hmet⟩
    simp only at hj0 hmet
    cases met with
    | true =>
      refine And.intro (fun k1 => ?_) fun k1 => ?_
      · have hj : j < p.length + 1 := by have := of_decide_eq_true k1; simp only at this; omega
        refine And.intro (by omega) (Exists.intro [sT (stAt t s p j)] (And.intro (by rw [Int.toNat_natCast]; exact stRows_get (by omega)) ?_))
        refine And.intro (by omega) (And.intro (by omega) ?_)
        refine Exists.intro (j + 1, true) (And.intro (by show p.length + 1 - (j + 1) < p.length + 1 - j; omega) (And.intro ⟨hj, ?_⟩ (And.intro rfl rfl)))
        show true = (List.range (j + 1)).any _
        rw [List.range_succ, List.any_append, ← hmet]; rfl
      · refine And.intro (by omega) (And.intro (by omega) ?_)
        exact Exists.intro (i + 1) (And.intro (by show F.length - (i + 1) < F.length - i; omega) (And.intro hi (And.intro rfl rfl)))
    | false =>
      refine And.intro (fun k1 => ?_) fun k1 => ?_
      · have hj : j < p.length + 1 := by have := of_decide_eq_true k1; simp only at this; omega
        refine And.intro (by omega) (Exists.intro [sT (stAt t s p j)] (And.intro (by rw [Int.toNat_natCast]; exact stRows_get (by omega)) ?_))
        refine Exists.intro [tLit F[i]] (And.intro rfl (And.intro (Nat.le_refl 1) ?_))
        refine SpecP.conv (conv_first fun _ _ _ _ => sT_vl) (SpecP.mono (f25_spec (stAt t s p j).isEmpty false (stAt t s p j) [F[i]] _) ?_)
        rintro _ _ ⟨rfl, rfl⟩
        refine And.intro trivial (And.intro trivial ?_)
        refine And.intro (fun k2 => ?_) fun k2 => ?_
        · refine And.intro (by omega) (And.intro (by omega) ?_)
          refine Exists.intro (j + 1, true) (And.intro (by show p.length + 1 - (j + 1) < p.length + 1 - j; omega) (And.intro ⟨hj, ?_⟩ (And.intro rfl rfl)))
          show true = (List.range (j + 1)).any _
          rw [List.range_succ, List.any_append, ← hmet]; simp [k2]
        · refine And.intro (by omega) (And.intro (by omega) ?_)
          refine Exists.intro (j + 1, false) (And.intro (by show p.length + 1 - (j + 1) < p.length + 1 - j; omega) (And.intro ⟨hj, ?_⟩ (And.intro rfl rfl)))
          show false = (List.range (j + 1)).any _
          rw [List.range_succ, List.any_append, ← hmet]; simp [k2]
      · have hj : j = p.length + 1 := by have := of_decide_eq_false k1; simp only at this; omega
        rw [hj, rany_true (i := q) (by omega) hqh] at hmet
        cases hmet
  refine LoopW.mk Nat (fun i => i ≤ A.length) (fun i => [(2, .ints n2 p), (7, .int (costAt t p p.length)), (16, .cuts bX X), (120, .ints (A.map tI).isEmpty A), (121, .int (A.map tI).length), (122, .int i)])
    (fun _ => ⟨out, []⟩) (fun i => A.length - i) 0 (Nat.zero_le _) ⟨rfl, rfl⟩ fun i hi0 => ?_
  refine And.intro (fun h4 => ?_) fun h4 => ?_
  · have hi := lt_of_dec h4
    refine And.intro (by omega) (Exists.intro _ (And.intro (get_map hi) ?_))
    refine SpecP.mono (f26_spec n2 p A[i] []) ?_
    rintro _ _ ⟨rfl, rfl⟩
    rw [hAm _ (List.getElem_mem hi)]
    refine And.intro (fun _ => ?_) fun h => Bool.noConfusion h
    refine And.intro (by omega) (And.intro (by omega) ?_)
    exact Exists.intro (i + 1) (And.intro (by show A.length - (i + 1) < A.length - i; omega) (And.intro hi (And.intro rfl rfl)))
  refine LoopW.mk Nat (fun i => i ≤ X.length) (fun i => [(2, .ints n2 p), (7, .int (costAt t p p.length)), (25, .int (total (X.take i))), (131, .cuts bX X), (132, .int (X.map tCutX).length), (133, .int i)])
    (fun _ => ⟨out, []⟩) (fun i => X.length - i) 0 (Nat.zero_le _) ⟨rfl, rfl⟩ fun i hi0 => ?_
  refine And.intro (fun h5 => ?_) fun h5 => ?_
  · have hi := lt_of_dec h5
    obtain ⟨y, hy, hyp⟩ := hXm _ (List.getElem_mem hi)
    obtain ⟨g1, g2, g3, _⟩ := okC_cost (hoks _ (List.getElem_mem hi))
    have hal := rising_len g3 (by omega)
    have htot := total_in (l := X.take i) fun c hc => by
      have := okC_cost (hoks c (List.mem_of_mem_take hc)); omega
    have htl : (X.take i).length ≤ 1000 := by rw [List.length_take]; omega
    refine And.intro (by omega) (Exists.intro _ (And.intro (get_map hi) ?_))
    refine LoopW.mk (Nat × Bool) (fun u => u.1 ≤ X[i].acts.length ∧ u.2 = (X[i].acts.take u.1).any (hasB p))
      (fun u => [(2, .ints n2 p), (7, .int (costAt t p p.length)), (25, .int (total (X.take i))), (27, .ptr (.cur 216) 0), (28, .bool u.2), (131, .cuts bX X), (132, .int (X.map tCutX).length), (133, .int i), (138, .ints X[i].nil X[i].acts), (139, .int (X[i].acts.map tI).length), (140, .int u.1)])
      (fun _ => ⟨out, [(216, .box [.t (.sl X[i].nil 1 (X[i].acts.map tI)), .t (.v (.int .i64 X[i].cost))])]⟩) (fun u => X[i].acts.length - u.1) (0, false) ⟨Nat.zero_le _, rfl⟩ ⟨rfl, rfl⟩ ?_
    rintro ⟨j, met⟩ ⟨hj0, hmet⟩
    simp only at hj0 hmet
    have hnx : ∀ hj : j < X[i].acts.length, (X[i].acts.take (j + 1)).any (hasB p) = (met || hasB p X[i].acts[j]) := fun hj => by
      rw [List.take_add_one, List.any_append, ← hmet]; simp [hj]
    cases met with
    | true =>
      refine And.intro (fun k1 => ?_) fun k1 => ?_
      · have hj : j < X[i].acts.length := lt_of_dec k1
        refine And.intro (by omega) (Exists.intro _ (And.intro (get_map hj) ?_))
        refine And.intro (by omega) (And.intro (by omega) ?_)
        exact Exists.intro (j + 1, true) (And.intro (by show X[i].acts.length - (j + 1) < X[i].acts.length - j; omega) (And.intro ⟨hj, by show true = _; rw [hnx hj]; rfl⟩ (And.intro rfl rfl)))
      · refine And.intro (by omega) (And.intro (by omega) ?_)
        refine And.intro (by omega) (And.intro (by omega) ?_)
        refine Exists.intro (i + 1) (And.intro (by show X.length - (i + 1) < X.length - i; omega) (And.intro hi ?_))
        simp only [total_take hi]
        exact And.intro rfl rfl
    | false =>
      refine And.intro (fun k1 => ?_) fun k1 => ?_
      · have hj : j < X[i].acts.length := lt_of_dec k1
        refine And.intro (by omega) (Exists.intro _ (And.intro (get_map hj) ?_))
        refine SpecP.mono (f26_spec n2 p X[i].acts[j] []) ?_
        rintro _ _ ⟨rfl, rfl⟩
        refine And.intro (fun k2 => ?_) fun k2 => ?_
        · refine And.intro (by omega) (And.intro (by omega) ?_)
          exact Exists.intro (j + 1, true) (And.intro (by show X[i].acts.length - (j + 1) < X[i].acts.length - j; omega) (And.intro ⟨hj, by show true = _; rw [hnx hj, k2]; rfl⟩ (And.intro rfl rfl)))
        · refine And.intro (by omega) (And.intro (by omega) ?_)
          exact Exists.intro (j + 1, false) (And.intro (by show X[i].acts.length - (j + 1) < X[i].acts.length - j; omega) (And.intro ⟨hj, by show false = _; rw [hnx hj, k2]; rfl⟩ (And.intro rfl rfl)))
      · have hj : X[i].acts.length ≤ j := ge_of_dec k1
        rw [List.take_of_length_le hj] at hmet
        rw [List.any_eq_true.2 ⟨y, hy, hyp⟩] at hmet
        cases hmet
  · have hi : X.length ≤ i := ge_of_dec h5
    rw [List.take_of_length_le hi]
    refine And.intro (fun _ => ?_) fun h => absurd (decide_eq_true hcost) (by rw [h]; simp)
    refine SpecP.mono (f14_spec []) ?_
    rintro _ _ ⟨rfl, rfl⟩
    refine And.intro (fun _ => ?_) fun h => Bool.noConfusion h
    exact Exists.intro [] (ret_bool rfl rfl)

end Go.Fw

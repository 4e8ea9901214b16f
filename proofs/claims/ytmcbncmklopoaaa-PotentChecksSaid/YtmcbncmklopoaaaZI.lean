/- Texts that lead to the law, part 9. -/
import Derived.Test.YtmcbncmklopoaaaZH

/- What the program's functions do, part 23: what Cuts asks. -/
namespace Go.Fw
open Go Go.Proofs
set_option maxRecDepth 10000

abbrev LV.effs (nl : Bool) (l : List Eff) : LV := .t (.sl nl 3 (l.map tEff))
abbrev LV.eff (e : Eff) : LV := .agg [.t (.sl e.nil 2 (e.when_.map tLit)), .t (.v (.int .i64 e.lit.fact)), .t (.v (.bool e.lit.neg))]

def kp99 : Kp := [(2, ([0, 1, 7, 8], []))]
theorem f99_spec (n1 : Bool) (l : List Eff) (fc k s : Nat) (p : Eff → Bool) (out : List Fr)
    (hc : ∀ x ∈ l, SpecP Try.prog fc [.eff x, .ptr (.fr (k + 1) s) 0] ([] :: out) fun r ro => r = .bool (p x) ∧ ro = []) :
    SpecP Try.prog 99 [.effs n1 l, .fn fc [(.fr k s, 0)]] out fun r ro => ∃ j : Int, r = .int j ∧ decide (0 ≤ j) = l.any p ∧ ro = [] := by
  refine spec_body cx_ok kp99 [] (fn := Try.f99) (by kernel_rfl) rfl (by kernel_rfl) rfl (by unfold FnOK; kernel_rfl) fun hok => ?_
  have hmx := le_max hok.1.1
  refine LoopW.mk Nat (fun i => i ≤ l.length ∧ (l.take i).any p = false) (fun i => [(0, .effs n1 l), (1, .fn fc [(.fr k s, 0)]), (7, .int (l.map tEff).length), (8, .int i)]) (fun _ => ⟨out, []⟩) (fun i => l.length - i) 0 ⟨Nat.zero_le _, rfl⟩ ⟨rfl, rfl⟩ fun i hI => ?_
  refine And.intro (fun h1 => ?_) fun h1 => ?_
  · have hi := lt_of_dec h1
    refine And.intro (by omega) (Exists.intro _ (And.intro (get_map hi) ?_))
    refine SpecP.mono (hc _ (List.getElem_mem hi)) ?_
    rintro _ _ ⟨rfl, rfl⟩
    refine And.intro trivial (And.intro trivial ?_)
    refine And.intro (fun h2 => ?_) fun h2 => ?_
    · exact Exists.intro [] ⟨_, rfl, by rw [any_true hi h2]; simp, rfl⟩
    · refine And.intro (by omega) (And.intro (by omega) ?_)
      exact Exists.intro (i + 1) (And.intro (by show l.length - (i + 1) < l.length - i; omega) (And.intro ⟨hi, any_step hi hI.2 h2⟩ (And.intro rfl rfl)))
  · exact Exists.intro [] ⟨_, rfl, by rw [any_end (ge_of_dec h1) hI.2]; rfl, rfl⟩
theorem f69_spec (n1 : Bool) (l : List Eff) (fc k s : Nat) (p : Eff → Bool) (out : List Fr)
    (hc : ∀ x ∈ l, SpecP Try.prog fc [.eff x, .ptr (.fr (k + 2) s) 0] ([] :: [] :: out) fun r ro => r = .bool (p x) ∧ ro = []) :
    SpecP Try.prog 69 [.effs n1 l, .fn fc [(.fr k s, 0)]] out fun r ro => r = .bool (l.any p) ∧ ro = [] := by
  refine spec_body cx_ok [] [] (fn := Try.f69) (by kernel_rfl) rfl (by kernel_rfl) rfl (by unfold FnOK; kernel_rfl) fun hok => ?_
  refine SpecP.mono (f99_spec n1 l fc (k + 1) s p _ hc) ?_
  rintro _ _ ⟨j, rfl, hj, rfl⟩
  refine And.intro trivial (And.intro trivial ?_)
  refine And.intro (fun h => ?_) fun h => ?_
  · exact Exists.intro [] (ret_bool (by rw [← hj]; simpa using h) rfl)
  · exact Exists.intro [] (ret_bool (by rw [← hj]; simpa using h) rfl)

def cntZ (rest : List Int) (a : Nat) (_ : Lit) : Bool := rest.getD a 0 == 0
theorem getI {rest : List Int} {a : Nat} (ha : a < rest.length) : (rest.map tI)[0 + ((a : Int)).toNat]? = some (tI (rest.getD a 0)) := by
  rw [Nat.zero_add, Int.toNat_natCast, List.getElem?_map, List.getElem?_eq_getElem ha, List.getD_eq_getElem?_getD, List.getElem?_eq_getElem ha]; rfl
end Go.Fw

/- What the program's functions do, part 35: lists of actions; the state after an action. -/
namespace Go.Fw
open Go Go.Proofs
set_option maxRecDepth 10000

def planB (t : Task) (p : List Int) : Bool := decide (p.length ≤ 10000) && p.all fun x => decide (0 ≤ x) && decide (x < t.acts.length)
def kp19 : Kp := [(4, ([2, 10, 11, 12], [16]))]
theorem f19_spec (t : Task) (n2 : Bool) (p : List Int) (out : List Fr) : SpecP Try.prog 19 [.task t, .ints n2 p] out fun r ro => r = .bool (planB t p) ∧ ro = [] := by
  refine spec_body cx_ok kp19 [] (fn := Try.f19) (by kernel_rfl) rfl (by kernel_rfl) rfl (by unfold FnOK; kernel_rfl) fun hok => ?_
  refine And.intro (fun h1 => ?_) fun h1 => ?_
  · have h1 := of_decide_eq_true h1
    rw [List.length_map] at h1
    exact Exists.intro [] (ret_bool (by simp [planB]; omega) rfl)
  have h1 := of_decide_eq_false h1
  rw [List.length_map] at h1
  refine LoopW.mk Nat (fun i => i ≤ p.length ∧ (p.take i).all (fun x => decide (0 ≤ x) && decide (x < t.acts.length)) = true) (fun i => [(2, .ptr (.cur 16) 0), (10, .ints n2 p), (11, .int (p.map tI).length), (12, .int i)])
    (fun _ => ⟨out, [(16, .box (cellsTask t))]⟩) (fun i => p.length - i) 0 ⟨Nat.zero_le _, rfl⟩ ⟨rfl, rfl⟩ fun i hI => ?_
  refine And.intro (fun h2 => ?_) fun h2 => ?_
  · have hi := lt_of_dec h2
    have bad : (decide (0 ≤ p[i]) && decide (p[i] < t.acts.length)) = false → planB t p = false := fun h => by rw [planB, all_false hi h, Bool.and_false]
    refine And.intro (by omega) (Exists.intro _ (And.intro (get_map hi) ?_))
    refine And.intro (fun h3 => ?_) fun h3 => ?_
    · have h3 := of_decide_eq_true h3
      exact Exists.intro [] (ret_bool (bad (by simp; omega)) rfl)
    have h3 := of_decide_eq_false h3
    refine And.intro (fun h4 => ?_) fun h4 => ?_
    · have h4 := of_decide_eq_true h4
      rw [List.length_map] at h4
      exact Exists.intro [] (ret_bool (bad (by simp; omega)) rfl)
    have h4 := of_decide_eq_false h4
    rw [List.length_map] at h4
    refine And.intro (by omega) (And.intro (by omega) ?_)
    exact Exists.intro (i + 1) (And.intro (by show p.length - (i + 1) < p.length - i; omega) (And.intro ⟨hi, all_step hi hI.2 (by simp; omega)⟩ (And.intro rfl rfl)))
  · have := all_end (ge_of_dec h2) hI.2
    exact Exists.intro [] (ret_bool (by rw [planB, this]; simp; omega) rfl)

def negStep (s : List Int) (b : List Bool) (e : Eff) : List Bool := if (e.lit.neg && holdsB s e.when_) = true then b.set e.lit.fact.toNat false else b
def posStep (s : List Int) (b : List Bool) (e : Eff) : List Bool := if (!e.lit.neg && holdsB s e.when_) = true then b.set e.lit.fact.toNat true else b
def negAll (n : Nat) (s : List Int) (l : List Eff) : List Bool := l.foldl (negStep s) (bitsL n s)
def afterBits (n : Nat) (s : List Int) (l : List Eff) : List Bool := l.foldl (posStep s) (negAll n s l)
def afterL (n : Nat) (s : List Int) (l : List Eff) : List Int := listL (afterBits n s l)

theorem foldl_len {f : List Bool → Eff → List Bool} (h : ∀ b e, (f b e).length = b.length) : ∀ (l : List Eff) (b : List Bool), (l.foldl f b).length = b.length
  | [], _ => rfl
  | e :: r, b => by rw [List.foldl_cons, foldl_len h r, h]
theorem neg_len (s : List Int) (b : List Bool) (e : Eff) : (negStep s b e).length = b.length := by unfold negStep; split <;> simp
theorem pos_len (s : List Int) (b : List Bool) (e : Eff) : (posStep s b e).length = b.length := by unfold posStep; split <;> simp
theorem foldl_take {f : List Bool → Eff → List Bool} {l : List Eff} {b : List Bool} {i : Nat} (hi : i < l.length) : (l.take (i + 1)).foldl f b = f ((l.take i).foldl f b) l[i] := by
  rw [List.take_add_one, List.getElem?_eq_getElem hi, Option.toList_some, List.foldl_append]; rfl

def sSz : List Int → Nat
  | [] => 0
  | _ :: _ => 1
def sT (s : List Int) : T := .sl s.isEmpty (sSz s) (s.map tI)
theorem sT_vl {s : List Int} {β : K → Nat} {RO : Nat → Prop} {w : World} {v : Value} (h : VL β RO w (.t (sT s)) v) : VL β RO w (.ints s.isEmpty s) v := by
  cases s with
  | nil => exact nil_sz β RO w v h
  | cons x r => exact h

theorem el_at {b : List Bool} {n : Nat} (h : n < b.length) : ∃ y, (b.map tB)[0 + n]? = some (tB y) :=
  ⟨b[n], by rw [Nat.zero_add, List.getElem?_map, List.getElem?_eq_getElem h]; rfl⟩
def kp96 : Kp := [(3, ([1, 2, 3, 7, 22, 23, 24], [24, 129000459])), (9, ([1, 7, 48, 49, 50], [129000459]))]
theorem f96_spec (t : Task) (n1 : Bool) (s : List Int) (k : Nat) (TK : TaskOK t) (hs : ∀ x ∈ s, 0 ≤ x ∧ x < (t.facts.length : Int)) (hk : k < t.acts.length) (out : List Fr) :
    SpecP Try.prog 96 [.task t, .ints n1 s, .int k] out fun r ro => r = .t (sT (afterL t.facts.length s t.acts[k].effs)) ∧ ro = [] := by
  refine SpecP.close (Post := fun r ro => r = accV 569001843 1 ((afterL t.facts.length s t.acts[k].effs).map tI) ∧ ro = accO 569001843 3 1 ((afterL t.facts.length s t.acts[k].effs).map tI)) ?_ ?_
  rotate_left
  · rintro r ro ⟨rfl, rfl⟩
    generalize afterL t.facts.length s t.acts[k].effs = L
    cases L with
    | nil => exact ⟨_, .same _, rfl, rfl⟩
    | cons x r =>
      refine ⟨_, .row 569001843 3 1 0 _ ((x :: r).map tI) rfl (by simp), ?_, rfl⟩
      show LV.t (.sl false 1 ((((x :: r).map tI).drop 0).take ((x :: r).map tI).length)) = _
      rw [← take_all]; rfl
  refine spec_body cx_ok kp96 [] (fn := Try.f96) (by kernel_rfl) rfl (by kernel_rfl) rfl (by unfold FnOK; kernel_rfl) fun hok => ?_
  have hfl : (t.facts.map tS).length = t.facts.length := List.length_map ..
  have hN := TK.facts
  have hmem : t.acts[k] ∈ t.acts := List.getElem_mem hk
  have hE := TK.effs _ hmem
  refine SpecP.mono (f109_spec (t.facts.map tS).length n1 s (by omega) (by rw [hfl]; exact hs) []) ?_
  rintro _ _ ⟨rfl, rfl⟩
  refine And.intro (by omega) (Exists.intro _ (And.intro (get_map hk) ?_))
  have nl : ∀ i, ((t.acts[k].effs.take i).foldl (negStep s) (bitsL (t.facts.map tS).length s)).length = t.facts.length := fun i => by rw [foldl_len (neg_len s), bitsL_length, hfl]
  refine LoopW.mk Nat (fun i => i ≤ t.acts[k].effs.length) (fun i => [(1, .ints n1 s), (2, .int k), (3, .ptr (.cur 24) 0), (7, .osl (.cur 129000459) 1 0 (t.facts.map tS).length), (22, .t (.sl t.acts[k].en 3 (t.acts[k].effs.map tEff))), (23, .int (t.acts[k].effs.map tEff).length), (24, .int i)])
    (fun i => ⟨out, [(24, .box (cellsTask t)), (129000459, .row 4 1 (((t.acts[k].effs.take i).foldl (negStep s) (bitsL (t.facts.map tS).length s)).map tB))]⟩) (fun i => t.acts[k].effs.length - i) 0 (Nat.zero_le _) ⟨rfl, rfl⟩ fun i hI => ?_
  refine And.intro (fun h1 => ?_) fun h1 => ?_
  · have hi := lt_of_dec h1
    have hin := TK.lit _ hmem _ (List.getElem_mem hi)
    have hnl := nl i
    have hft : t.acts[k].effs[i].lit.fact.toNat < ((t.acts[k].effs.take i).foldl (negStep s) (bitsL (t.facts.map tS).length s)).length := by rw [hnl]; have := hin.1; have := hin.2; omega
    have stay : (t.acts[k].effs[i].lit.neg && holdsB s t.acts[k].effs[i].when_) = false → (t.acts[k].effs.take (i + 1)).foldl (negStep s) (bitsL (t.facts.map tS).length s) = (t.acts[k].effs.take i).foldl (negStep s) (bitsL (t.facts.map tS).length s) := fun h => by rw [foldl_take hi, negStep, h]; rfl
    refine And.intro (by omega) (Exists.intro _ (And.intro (get_map hi) ?_))
    refine And.intro (fun h2 => ?_) fun h2 => ?_
    · refine SpecP.mono (f63_spec n1 t.acts[k].effs[i].nil s t.acts[k].effs[i].when_ []) ?_
      rintro _ _ ⟨rfl, rfl⟩
      refine And.intro (fun h3 => ?_) fun h3 => ?_
      · obtain ⟨y, hy⟩ := el_at hft
        refine And.intro hin.1 (And.intro (by rw [hfl]; exact hin.2) (Exists.intro (tB y) (And.intro hy (And.intro (Nat.le_refl 1) ?_))))
        refine And.intro (by omega) (And.intro (by omega) ?_)
        refine Exists.intro (i + 1) (And.intro (by show t.acts[k].effs.length - (i + 1) < t.acts[k].effs.length - i; omega) (And.intro hi (And.intro rfl ?_)))
        show (⟨out, [(24, .box (cellsTask t)), (129000459, .row 4 1 ((((t.acts[k].effs.take i).foldl (negStep s) (bitsL (t.facts.map tS).length s)).map tB).set (0 + t.acts[k].effs[i].lit.fact.toNat) (tB false)))]⟩ : St) = _
        rw [Nat.zero_add, map_set', foldl_take hi, negStep, h2, h3]; rfl
      · refine And.intro (by omega) (And.intro (by omega) ?_)
        refine Exists.intro (i + 1) (And.intro (by show t.acts[k].effs.length - (i + 1) < t.acts[k].effs.length - i; omega) (And.intro hi (And.intro rfl ?_)))
        simp only [stay (by rw [h3, Bool.and_false])]
    · refine And.intro (by omega) (And.intro (by omega) ?_)
      refine Exists.intro (i + 1) (And.intro (by show t.acts[k].effs.length - (i + 1) < t.acts[k].effs.length - i; omega) (And.intro hi (And.intro rfl ?_)))
      simp only [stay (by rw [h2, Bool.false_and])]
  have hi : t.acts[k].effs.length ≤ i := ge_of_dec h1
  rw [List.take_of_length_le hi]
  refine And.intro (by omega) (Exists.intro _ (And.intro (get_map hk) ?_))
  have hneg : t.acts[k].effs.foldl (negStep s) (bitsL (t.facts.map tS).length s) = negAll t.facts.length s t.acts[k].effs := by rw [hfl]; rfl
  rw [hneg]
  have pl : ∀ i, ((t.acts[k].effs.take i).foldl (posStep s) (negAll t.facts.length s t.acts[k].effs)).length = t.facts.length := fun i => by rw [foldl_len (pos_len s), negAll, foldl_len (neg_len s), bitsL_length]
  clear h1 hi
  refine LoopW.mk Nat (fun i => i ≤ t.acts[k].effs.length) (fun i => [(1, .ints n1 s), (7, .osl (.cur 129000459) 1 0 (t.facts.map tS).length), (48, .t (.sl t.acts[k].en 3 (t.acts[k].effs.map tEff))), (49, .int (t.acts[k].effs.map tEff).length), (50, .int i)])
    (fun i => ⟨out, [(129000459, .row 4 1 (((t.acts[k].effs.take i).foldl (posStep s) (negAll t.facts.length s t.acts[k].effs)).map tB))]⟩) (fun i => t.acts[k].effs.length - i) 0 (Nat.zero_le _) ⟨rfl, rfl⟩ fun i hI => ?_
  refine And.intro (fun h1 => ?_) fun h1 => ?_
  · have hi := lt_of_dec h1
    have hin := TK.lit _ hmem _ (List.getElem_mem hi)
    have hnl := pl i
    have hft : t.acts[k].effs[i].lit.fact.toNat < ((t.acts[k].effs.take i).foldl (posStep s) (negAll t.facts.length s t.acts[k].effs)).length := by rw [hnl]; have := hin.1; have := hin.2; omega
    have stay : (!t.acts[k].effs[i].lit.neg && holdsB s t.acts[k].effs[i].when_) = false → (t.acts[k].effs.take (i + 1)).foldl (posStep s) (negAll t.facts.length s t.acts[k].effs) = (t.acts[k].effs.take i).foldl (posStep s) (negAll t.facts.length s t.acts[k].effs) := fun h => by rw [foldl_take hi, posStep, h]; rfl
    refine And.intro (by omega) (Exists.intro _ (And.intro (get_map hi) ?_))
    refine And.intro (fun h2 => ?_) fun h2 => ?_
    · refine And.intro (by omega) (And.intro (by omega) ?_)
      refine Exists.intro (i + 1) (And.intro (by show t.acts[k].effs.length - (i + 1) < t.acts[k].effs.length - i; omega) (And.intro hi (And.intro rfl ?_)))
      simp only [stay (by rw [h2]; rfl)]
    · refine SpecP.mono (f63_spec n1 t.acts[k].effs[i].nil s t.acts[k].effs[i].when_ []) ?_
      rintro _ _ ⟨rfl, rfl⟩
      refine And.intro (fun h3 => ?_) fun h3 => ?_
      · obtain ⟨y, hy⟩ := el_at hft
        refine And.intro hin.1 (And.intro (by rw [hfl]; exact hin.2) (Exists.intro (tB y) (And.intro hy (And.intro (Nat.le_refl 1) ?_))))
        refine And.intro (by omega) (And.intro (by omega) ?_)
        refine Exists.intro (i + 1) (And.intro (by show t.acts[k].effs.length - (i + 1) < t.acts[k].effs.length - i; omega) (And.intro hi (And.intro rfl ?_)))
        show (⟨out, [(129000459, .row 4 1 ((((t.acts[k].effs.take i).foldl (posStep s) (negAll t.facts.length s t.acts[k].effs)).map tB).set (0 + t.acts[k].effs[i].lit.fact.toNat) (tB true)))]⟩ : St) = _
        rw [Nat.zero_add, map_set', foldl_take hi, posStep, h2, h3]; rfl
      · refine And.intro (by omega) (And.intro (by omega) ?_)
        refine Exists.intro (i + 1) (And.intro (by show t.acts[k].effs.length - (i + 1) < t.acts[k].effs.length - i; omega) (And.intro hi (And.intro rfl ?_)))
        simp only [stay (by rw [h3, Bool.and_false])]
  have hi : t.acts[k].effs.length ≤ i := ge_of_dec h1
  have hpl := pl i
  rw [List.take_of_length_le hi] at hpl ⊢
  have hab : t.acts[k].effs.foldl (posStep s) (negAll t.facts.length s t.acts[k].effs) = afterBits t.facts.length s t.acts[k].effs := rfl
  rw [hab] at hpl ⊢
  refine Exists.intro ((afterBits t.facts.length s t.acts[k].effs).map tB) (And.intro (lend (by rw [hpl, hfl])) (And.intro (lend2 (by rw [hpl, hfl])) ?_))
  have m77 := f110_spec false (afterBits t.facts.length s t.acts[k].effs) (by omega)
  have haf : afterL t.facts.length s t.acts[k].effs = listL (afterBits t.facts.length s t.acts[k].effs) := rfl
  rw [haf]
  generalize listL (afterBits t.facts.length s t.acts[k].effs) = L at m77
  refine SpecP.mono (m77 _) ?_
  rintro _ _ ⟨rfl, rfl⟩
  cases L with
  | nil =>
    refine And.intro trivial (And.intro trivial ?_)
    exact Exists.intro [569001843] ⟨rfl, rfl⟩
  | cons x r =>
    refine And.intro trivial (And.intro ⟨flat_ints (b := x :: r), trivial⟩ ?_)
    exact Exists.intro [569001843] ⟨rfl, rfl⟩

end Go.Fw

/- What the program's functions do, part 39: copies of lists, lists of actions. -/
namespace Go.Fw
open Go Go.Proofs
set_option maxRecDepth 10000

theorem vt_nil {RO : Nat → Prop} {w : World} {v : Value} {b : Bool} {sz : Nat} {es : List (List T)} (h : VT RO w (.sl b sz es) v) : b = true → es = [] := fun hb => by
  cases h <;> first | rfl | cases hb
/-- A nil argument has no elements. -/
theorem SpecP.nil_arg {P : Program} {f : Nat} {args : List LV} {out : List Fr} {Post : LV → Fr → Prop} {i : Nat} {n1 : Bool} {s : List Int} (hi : args[i]? = some (.ints n1 s)) (hfn : FnOK P f) (h : (n1 = true → s = []) → SpecP P f args out Post) : SpecP P f args out Post :=
  ⟨hfn, fun β RO w vals hw hv => (h fun hn => by
    have hl : i < vals.length := by rw [← hv.1]; exact (List.getElem?_eq_some_iff.1 hi).1
    have hx := hv.2 i _ _ hi (List.getElem?_eq_getElem hl)
    cases hx with
    | t _ _ hx => exact List.map_eq_nil_iff.1 (vt_nil hx hn)).calls β RO w vals hw hv⟩

def inA (t : Task) (x : Int) : Bool := decide (x < 0) || decide (x ≥ t.acts.length)
def kp103 : Kp := [(2, ([0, 1, 7, 8], []))]
theorem f103_spec (n1 : Bool) (l : List Int) (fc k s : Nat) (p : Int → Bool) (out : List Fr)
    (hc : ∀ x ∈ l, SpecP Try.prog fc [.int x, .ptr (.fr (k + 1) s) 0] ([] :: out) fun r ro => r = .bool (p x) ∧ ro = []) :
    SpecP Try.prog 103 [.ints n1 l, .fn fc [(.fr k s, 0)]] out fun r ro => ∃ j : Int, r = .int j ∧ decide (0 ≤ j) = l.any p ∧ ro = [] := by
  refine spec_body cx_ok kp103 [] (fn := Try.f103) (by kernel_rfl) rfl (by kernel_rfl) rfl (by unfold FnOK; kernel_rfl) fun hok => ?_
  have hmx := le_max hok.1.1
  refine LoopW.mk Nat (fun i => i ≤ l.length ∧ (l.take i).any p = false) (fun i => [(0, .ints n1 l), (1, .fn fc [(.fr k s, 0)]), (7, .int (l.map tI).length), (8, .int i)]) (fun _ => ⟨out, []⟩) (fun i => l.length - i) 0 ⟨Nat.zero_le _, rfl⟩ ⟨rfl, rfl⟩ fun i hI => ?_
  refine And.intro (fun h1 => ?_) fun h1 => ?_
  · have hi := lt_of_dec h1
    refine And.intro (by omega) (Exists.intro _ (And.intro (get_map hi) ?_))
    refine SpecP.mono (hc _ (List.getElem_mem hi)) ?_
    rintro _ _ ⟨rfl, rfl⟩
    refine And.intro trivial (And.intro trivial ?_)
    refine And.intro (fun h2 => ?_) fun h2 => ?_
    · exact Exists.intro [] ⟨_, rfl, by rw [any_true hi h2]; simp, rfl⟩
    · refine And.intro (by omega) (And.intro (by omega) ?_)
      exact Exists.intro (i + 1) (And.intro (by show l.length - (i + 1) < l.length - i; omega) (And.intro ⟨hi, any_step hi hI.2 h2⟩ (And.intro rfl rfl)))
  · exact Exists.intro [] ⟨_, rfl, by rw [any_end (ge_of_dec h1) hI.2]; rfl, rfl⟩
theorem f84_spec (n1 : Bool) (l : List Int) (fc k s : Nat) (p : Int → Bool) (out : List Fr)
    (hc : ∀ x ∈ l, SpecP Try.prog fc [.int x, .ptr (.fr (k + 2) s) 0] ([] :: [] :: out) fun r ro => r = .bool (p x) ∧ ro = []) :
    SpecP Try.prog 84 [.ints n1 l, .fn fc [(.fr k s, 0)]] out fun r ro => r = .bool (l.any p) ∧ ro = [] := by
  refine spec_body cx_ok [] [] (fn := Try.f84) (by kernel_rfl) rfl (by kernel_rfl) rfl (by unfold FnOK; kernel_rfl) fun hok => ?_
  refine SpecP.mono (f103_spec n1 l fc (k + 1) s p _ hc) ?_
  rintro _ _ ⟨j, rfl, hj, rfl⟩
  refine And.intro trivial (And.intro trivial ?_)
  refine And.intro (fun h => ?_) fun h => ?_
  · exact Exists.intro [] (ret_bool (by rw [← hj]; simpa using h) rfl)
  · exact Exists.intro [] (ret_bool (by rw [← hj]; simpa using h) rfl)
theorem f94_spec (t : Task) (x : Int) (fr0 fr1 fr2 : Fr) (out : List Fr) :
    SpecP Try.prog 94 [.int x, .ptr (.fr 2 16) 0] (fr0 :: fr1 :: ((16, .box (cellsTask t)) :: fr2) :: out) fun r ro => r = .bool (inA t x) ∧ ro = [] := by
  refine spec_body cx_ok [] [] (fn := Try.f94) (by kernel_rfl) rfl (by kernel_rfl) rfl (by unfold FnOK; kernel_rfl) fun hok => ?_
  refine And.intro (fun h1 => ?_) fun h1 => ?_
  · exact Exists.intro [] (ret_bool (by rw [inA, h1]; rfl) rfl)
  refine Exists.intro _ (And.intro rfl ?_)
  refine And.intro (fun h2 => ?_) fun h2 => ?_
  · exact Exists.intro [] (ret_bool (by rw [List.length_map] at h2; rw [inA, h1, h2]; rfl) rfl)
  · exact Exists.intro [] (ret_bool (by rw [List.length_map] at h2; rw [inA, h1, h2]; rfl) rfl)
theorem planB_any (t : Task) (p : List Int) : planB t p = (decide (p.length ≤ 10000) && !p.any (inA t)) := by
  have : (p.all fun x => decide (0 ≤ x) && decide (x < t.acts.length)) = !p.any (inA t) := by
    rw [List.not_any_eq_all_not]
    congr 1; funext x
    rw [inA, Bool.eq_iff_iff]; simp
  rw [planB, this]
theorem f50_spec (t : Task) (n2 : Bool) (p : List Int) (out : List Fr) : SpecP Try.prog 50 [.task t, .ints n2 p] out fun r ro => r = .bool (planB t p) ∧ ro = [] := by
  refine spec_body cx_ok [] [] (fn := Try.f50) (by kernel_rfl) rfl (by kernel_rfl) rfl (by unfold FnOK; kernel_rfl) fun hok => ?_
  refine And.intro (fun h1 => ?_) fun h1 => ?_
  · refine SpecP.mono (f84_spec n2 p 94 0 16 (inA t) _ (fun x _ => f94_spec t x [] [] [] out)) ?_
    rintro _ _ ⟨rfl, rfl⟩
    refine And.intro trivial (And.intro trivial ?_)
    rw [List.length_map] at h1
    have h1 := of_decide_eq_true h1
    refine And.intro (fun h => ?_) fun h => ?_
    · exact Exists.intro [] (ret_bool (by rw [planB_any, h]; simp) rfl)
    · exact Exists.intro [] (ret_bool (by rw [planB_any, h]; simp; omega) rfl)
  · rw [List.length_map] at h1
    have h1 := of_decide_eq_false h1
    exact Exists.intro [] (ret_bool (by rw [planB_any]; simp; omega) rfl)

/-! ### The states of a run -/
theorem rising_of {l : List Int} {n : Int} (h : l.Pairwise (· < ·)) (h2 : ∀ x ∈ l, 0 ≤ x ∧ x < n) : risingB l n = true := by
  rw [risingB, List.all_eq_true]
  intro i hi
  have hi : i < l.length := List.mem_range.1 hi
  have h3 := h2 _ (List.getElem_mem hi)
  simp only [chkI, at0_eq hi, Bool.and_eq_true, Bool.or_eq_true, decide_eq_true_eq, beq_iff_eq]
  refine ⟨h3, ?_⟩
  cases i with
  | zero => exact .inl rfl
  | succ i => right; rw [Nat.add_sub_cancel, at0_eq (show i < l.length by omega)]; exact List.pairwise_iff_getElem.1 h i (i + 1) (by omega) hi (by omega)

end Go.Fw

/- Numbers of 64 bits without a sign; numbers of two words. -/
namespace Go.Fw
open Go Go.Proofs
set_option maxRecDepth 10000

abbrev LV.u64 (n : Int) : LV := .t (.v (.int .u64 n))
abbrev LV.wide (h l : Int) : LV := .agg [.u64 h, .u64 l]
def cxn : Ctx := { cx with wrap := true, num := true }
theorem cxn_ok : cxn.OK Try.prog := ⟨cx_ok.mixed, cx_ok.tys, cx_ok.eqs, cx_ok.exts, cx_ok.srt⟩

theorem wrapU (n : Int) : IntKind.u64.wrap n = n % 18446744073709551616 := by
  simp only [IntKind.wrap, IntKind.bits, IntKind.signed]
  simp
theorem andU {a : Int} (h0 : 0 ≤ a) (h1 : a < 18446744073709551616) : IntKind.u64.wrap ((BitVec.ofInt IntKind.u64.bits a &&& BitVec.ofInt IntKind.u64.bits 4294967295).toNat : Int) = a % 4294967296 := by
  rw [wrapU]
  obtain ⟨n, rfl⟩ : ∃ n : Nat, a = (n : Int) := ⟨a.toNat, by omega⟩
  have hn : n < 2 ^ 64 := by omega
  have e1 : (BitVec.ofInt IntKind.u64.bits (n : Int)).toNat = n := by
    show (BitVec.ofInt 64 (n : Int)).toNat = n
    rw [BitVec.ofInt_natCast, BitVec.toNat_ofNat, Nat.mod_eq_of_lt hn]
  have e2 : (BitVec.ofInt IntKind.u64.bits 4294967295).toNat = 2 ^ 32 - 1 := by decide
  rw [BitVec.toNat_and, e1, e2, Nat.and_two_pow_sub_one_eq_mod]
  omega
theorem shrU {a : Int} : a.fdiv (2 ^ min (32 : Int).toNat IntKind.u64.bits) = a / 4294967296 := by
  show a.fdiv 4294967296 = _
  exact Int.fdiv_eq_ediv_of_nonneg _ (by decide)
theorem xorU {a : Int} (h0 : 0 ≤ a) (h1 : a < 18446744073709551616) :
    IntKind.u64.wrap ((BitVec.ofInt IntKind.u64.bits (if IntKind.u64.signed then -1 else IntKind.u64.max) ^^^ BitVec.ofInt IntKind.u64.bits a).toNat : Int) = 18446744073709551615 - a := by
  rw [wrapU]
  obtain ⟨n, rfl⟩ : ∃ n : Nat, a = (n : Int) := ⟨a.toNat, by omega⟩
  have hn : n < 2 ^ 64 := by omega
  have e0 : BitVec.ofInt IntKind.u64.bits (if IntKind.u64.signed then -1 else IntKind.u64.max) = BitVec.allOnes 64 := by
    show BitVec.ofInt 64 18446744073709551615 = BitVec.allOnes 64
    decide
  have e1 : BitVec.ofInt IntKind.u64.bits (n : Int) = BitVec.ofNat 64 n := BitVec.ofInt_natCast ..
  rw [e0, e1]
  show ((BitVec.allOnes 64 ^^^ BitVec.ofNat 64 n).toNat : Int) % _ = _
  rw [BitVec.allOnes_xor, BitVec.toNat_not, BitVec.toNat_ofNat, Nat.mod_eq_of_lt hn]
  omega

/-- The product of two words, by halves. -/
theorem mul_halves {x y : Int} (hx : 0 ≤ x ∧ x < 18446744073709551616) (hy : 0 ≤ y ∧ y < 18446744073709551616) : ∃ p q r s : Int,
    p = x % 4294967296 * (y % 4294967296) ∧ q = x / 4294967296 * (y % 4294967296) ∧ r = x % 4294967296 * (y / 4294967296) ∧ s = x / 4294967296 * (y / 4294967296) ∧
    (0 ≤ p ∧ p ≤ 18446744065119617025) ∧ (0 ≤ q ∧ q ≤ 18446744065119617025) ∧ (0 ≤ r ∧ r ≤ 18446744065119617025) ∧ (0 ≤ s ∧ s ≤ 18446744065119617025) ∧
    x * y = s * 18446744073709551616 + (q + r) * 4294967296 + p := by
  have b : ∀ a c : Int, 0 ≤ a ∧ a ≤ 4294967295 → 0 ≤ c ∧ c ≤ 4294967295 → 0 ≤ a * c ∧ a * c ≤ 18446744065119617025 := fun a c ha hc =>
    ⟨Int.mul_nonneg ha.1 hc.1, Int.le_trans (Int.mul_le_mul ha.2 hc.2 hc.1 (by decide)) (by decide)⟩
  have hx0 : 0 ≤ x % 4294967296 ∧ x % 4294967296 ≤ 4294967295 := by omega
  have hx1 : 0 ≤ x / 4294967296 ∧ x / 4294967296 ≤ 4294967295 := by omega
  have hy0 : 0 ≤ y % 4294967296 ∧ y % 4294967296 ≤ 4294967295 := by omega
  have hy1 : 0 ≤ y / 4294967296 ∧ y / 4294967296 ≤ 4294967295 := by omega
  refine ⟨_, _, _, _, rfl, rfl, rfl, rfl, b _ _ hx0 hy0, b _ _ hx1 hy0, b _ _ hx0 hy1, b _ _ hx1 hy1, ?_⟩
  have ex : x = x / 4294967296 * 4294967296 + x % 4294967296 := by omega
  have ey : y = y / 4294967296 * 4294967296 + y % 4294967296 := by omega
  generalize x / 4294967296 = x1 at *
  generalize x % 4294967296 = x0 at *
  generalize y / 4294967296 = y1 at *
  generalize y % 4294967296 = y0 at *
  subst ex ey
  simp only [Int.add_mul, Int.mul_add]
  have e1 : x1 * 4294967296 * (y1 * 4294967296) = x1 * y1 * 18446744073709551616 := by
    rw [Int.mul_assoc x1, ← Int.mul_assoc 4294967296 y1, Int.mul_comm 4294967296 y1, Int.mul_assoc y1, ← Int.mul_assoc x1]; rfl
  have e2 : x0 * (y1 * 4294967296) = x0 * y1 * 4294967296 := (Int.mul_assoc ..).symm
  have e3 : x1 * 4294967296 * y0 = x1 * y0 * 4294967296 := by rw [Int.mul_assoc, Int.mul_comm 4294967296 y0, ← Int.mul_assoc]
  rw [e1, e2, e3]
  omega

theorem f65_spec (x y : Int) (hx : 0 ≤ x ∧ x < 18446744073709551616) (hy : 0 ≤ y ∧ y < 18446744073709551616) (out : List Fr) :
    SpecP Try.prog 65 [.u64 x, .u64 y] out fun r ro => r = .tup [.u64 (x * y / 18446744073709551616), .u64 (x * y % 18446744073709551616)] ∧ ro = [] := by
  refine spec_body cxn_ok [] [] (fn := Try.f65) (by kernel_rfl) rfl (by kernel_rfl) rfl (by unfold FnOK; kernel_rfl) fun hok => ?_
  obtain ⟨p, q, r, s, ep, eq, er, es, hp, hq, hr, hs, hxy⟩ := mul_halves hx hy
  refine And.intro (by decide) (And.intro (by decide) ?_)
  intro w0 h0
  rw [andU hx.1 hx.2, andU hy.1 hy.2, ← ep, wrapU] at h0
  have h0 : w0 = p := by omega
  intro a1 h1
  rw [andU hy.1 hy.2, shrU, ← eq, wrapU] at h1
  have h1 : a1 = q := by omega
  refine And.intro (by decide) ?_
  intro t1 h2
  rw [shrU, wrapU] at h2
  have h2 : t1 = q + p / 4294967296 := by omega
  have ht1 : 0 ≤ t1 ∧ t1 < 18446744073709551616 := by omega
  refine And.intro (by decide) ?_
  intro a2 h3
  rw [andU hx.1 hx.2, shrU, ← er, wrapU] at h3
  have h3 : a2 = r := by omega
  intro w1 h4
  rw [andU ht1.1 ht1.2, wrapU] at h4
  have h4 : w1 = (q + p / 4294967296) % 4294967296 + r := by omega
  intro a3 h5
  rw [shrU, shrU, ← es, wrapU] at h5
  have h5 : a3 = s := by omega
  intro a4 h6
  rw [shrU, wrapU] at h6
  refine And.intro (by decide) ?_
  intro hi h7
  rw [shrU, wrapU] at h7
  intro lo h8
  rw [wrapU] at h8
  have e1 : hi = x * y / 18446744073709551616 := by omega
  refine Exists.intro [] (And.intro ?_ rfl)
  show LV.tup [.u64 hi, .u64 lo] = _
  rw [e1, h8]

theorem vl_two (a b : Int) (β : K → Nat) (RO : Nat → Prop) (w : World) : VL β RO w (.tup [.u64 a, .u64 b]) (.tuple #[.int .u64 a, .int .u64 b]) :=
  .tup _ [.int .u64 a, .int .u64 b] rfl fun i x v hx hv => by
    match i with
    | 0 => simp at hx hv; subst hx hv; exact .t _ _ (.v _ rfl)
    | 1 => simp at hx hv; subst hx hv; exact .t _ _ (.v _ rfl)
    | i + 2 => simp at hx
/-- The two functions without a body. -/
theorem add64 {a b c : Int} (ha : 0 ≤ a) (hb : 0 ≤ b) (hc : 0 ≤ c ∧ c ≤ 1) : ExtV Try.prog 97 [.int .u64 a, .int .u64 b, .int .u64 c] (.tup [.u64 ((a + b + c) % 18446744073709551616), .u64 ((a + b + c) / 18446744073709551616)]) := fun w =>
  ⟨_, by
    rw [run_callFunc_extern (P := Try.prog) (f := 97) (fn := Try.f97) (e := add64Entry) (by kernel_rfl) (by kernel_rfl) (by kernel_rfl) (by kernel_rfl) (by kernel_rfl), run_add64 a b c ha hb hc.1 hc.2]
    rfl, fun β RO => vl_two _ _ β RO w⟩
def sub64Entry : Array Value → Sem Value := fun args => do
  let (x, y, b) ← Extern.MathBitsCarry.three "Sub64" args
  pure (Extern.MathBitsCarry.pair ((x + Extern.MathBitsCarry.m64 - y - b) % Extern.MathBitsCarry.m64) (if x < y + b then 1 else 0))
theorem run_sub64 {P : Program} (x y c : Int) (hx : 0 ≤ x ∧ x < 18446744073709551616) (hy : 0 ≤ y ∧ y < 18446744073709551616) (hc : 0 ≤ c ∧ c ≤ 1) (w : World) :
    (sub64Entry #[.int .u64 x, .int .u64 y, .int .u64 c]).run P w = .ok (.tuple #[.int .u64 ((x - y - c) % 18446744073709551616), .int .u64 (if x < y + c then 1 else 0)]) w := by
  have key : ∀ k : Nat, k ≤ 1 → (sub64Entry #[.int .u64 x, .int .u64 y, .int .u64 (k : Int)]).run P w =
      .ok (Extern.MathBitsCarry.pair ((x.toNat + Extern.MathBitsCarry.m64 - y.toNat - k) % Extern.MathBitsCarry.m64) (if x.toNat < y.toNat + k then 1 else 0)) w := by
    intro k hk
    have : k = 0 ∨ k = 1 := by omega
    rcases this with rfl | rfl <;> rfl
  obtain ⟨k, rfl⟩ := Int.eq_ofNat_of_zero_le hc.1
  rw [key k (by omega)]
  obtain ⟨X, rfl⟩ := Int.eq_ofNat_of_zero_le hx.1
  obtain ⟨Y, rfl⟩ := Int.eq_ofNat_of_zero_le hy.1
  have e1 : (Int.ofNat ((X + Extern.MathBitsCarry.m64 - Y - k) % Extern.MathBitsCarry.m64)) = ((X : Int) - Y - k) % 18446744073709551616 := by
    simp only [Extern.MathBitsCarry.m64, Int.ofNat_eq_natCast]
    omega
  have e2 : (Int.ofNat (if X < Y + k then 1 else 0)) = if (X : Int) < Y + k then 1 else 0 := by
    split <;> split <;> first | rfl | omega
  simp only [Extern.MathBitsCarry.pair, Int.toNat_natCast]
  rw [e1, e2]
theorem sub64 {a b c : Int} (ha : 0 ≤ a ∧ a < 18446744073709551616) (hb : 0 ≤ b ∧ b < 18446744073709551616) (hc : 0 ≤ c ∧ c ≤ 1) : ExtV Try.prog 112 [.int .u64 a, .int .u64 b, .int .u64 c] (.tup [.u64 ((a - b - c) % 18446744073709551616), .u64 (if a < b + c then 1 else 0)]) := fun w =>
  ⟨_, by
    rw [run_callFunc_extern (P := Try.prog) (f := 112) (fn := Try.f112) (e := sub64Entry) (by kernel_rfl) (by kernel_rfl) (by kernel_rfl) (by kernel_rfl) (by kernel_rfl), run_sub64 a b c ha hb hc]
    rfl, fun β RO => vl_two _ _ β RO w⟩

end Go.Fw

/- Numbers of two words: products, sums, opposites. -/
namespace Go.Fw
open Go Go.Proofs
set_option maxRecDepth 10000

/-- A whole number as two words. -/
abbrev wideZ (n : Int) : LV := .wide (n / 18446744073709551616 % 18446744073709551616) (n % 18446744073709551616)

theorem wide_eq {a b c d : Int} (h1 : a = c) (h2 : b = d) : LV.wide a b = LV.wide c d := by rw [h1, h2]
theorem mul_lt {x y : Int} (hx : 0 ≤ x ∧ x < 18446744073709551616) (hy : 0 ≤ y ∧ y < 18446744073709551616) : 0 ≤ x * y ∧ x * y < 340282366920938463463374607431768211456 := by
  obtain ⟨p, q, r, s, _, _, _, _, hp, hq, hr, hs, h⟩ := mul_halves hx hy
  exact ⟨Int.mul_nonneg hx.1 hy.1, Int.lt_of_le_of_lt (Int.mul_le_mul (Int.le_sub_one_of_lt hx.2) (Int.le_sub_one_of_lt hy.2) hy.1 (by decide)) (by decide)⟩

theorem f90_spec (x y : Int) (hx : 0 ≤ x ∧ x < 18446744073709551616) (hy : 0 ≤ y ∧ y < 18446744073709551616) (out : List Fr) :
    SpecP Try.prog 90 [.u64 x, .u64 y] out fun r ro => r = wideZ (x * y) ∧ ro = [] := by
  refine spec_body cxn_ok [] [] (fn := Try.f90) (by kernel_rfl) rfl (by kernel_rfl) rfl (by unfold FnOK; kernel_rfl) fun hok => ?_
  refine SpecP.mono (f65_spec x y hx hy _) ?_
  rintro _ _ ⟨rfl, rfl⟩
  refine Exists.intro [] (And.intro ?_ rfl)
  have := mul_lt hx hy
  exact wide_eq (Int.emod_eq_of_lt (a := x * y / 18446744073709551616) (by omega) (by omega)).symm rfl

theorem f89_spec (a b c d : Int) (ha : 0 ≤ a ∧ a < 18446744073709551616) (hb : 0 ≤ b ∧ b < 18446744073709551616) (hc : 0 ≤ c ∧ c < 18446744073709551616) (hd : 0 ≤ d ∧ d < 18446744073709551616) (out : List Fr) :
    SpecP Try.prog 89 [.wide a b, .wide c d] out fun r ro => r = wideZ (a * 18446744073709551616 + b + (c * 18446744073709551616 + d)) ∧ ro = [] := by
  refine spec_body cxn_ok [] [] (fn := Try.f89) (by kernel_rfl) rfl (by kernel_rfl) rfl (by unfold FnOK; kernel_rfl) fun hok => ?_
  refine Exists.intro _ (And.intro (add64 hb.1 hd.1 (by decide)) ?_)
  refine Exists.intro _ (And.intro (add64 ha.1 hc.1 (by omega)) ?_)
  refine Exists.intro [] (And.intro ?_ rfl)
  refine wide_eq (a := (a + c + (b + d + 0) / 18446744073709551616) % 18446744073709551616) (b := (b + d + 0) % 18446744073709551616) ?_ ?_ <;> omega

theorem f113_spec (a b : Int) (ha : 0 ≤ a ∧ a < 18446744073709551616) (hb : 0 ≤ b ∧ b < 18446744073709551616) (out : List Fr) :
    SpecP Try.prog 113 [.wide a b] out fun r ro => r = wideZ (-(a * 18446744073709551616 + b)) ∧ ro = [] := by
  refine spec_body cxn_ok [] [] (fn := Try.f113) (by kernel_rfl) rfl (by kernel_rfl) rfl (by unfold FnOK; kernel_rfl) fun hok => ?_
  have hx := xorU ha.1 ha.2
  have hy := xorU hb.1 hb.2
  refine SpecP.mono (f89_spec _ _ 0 1 (by rw [hx]; omega) (by rw [hy]; omega) (by decide) (by decide) _) ?_
  rintro _ _ ⟨rfl, rfl⟩
  refine Exists.intro [] (And.intro ?_ rfl)
  rw [hx, hy]
  refine wide_eq ?_ ?_ <;> omega

theorem f101_spec (a b c d : Int) (out : List Fr) : SpecP Try.prog 101 [.wide a b, .wide c d] out fun r ro => r = .bool (decide (a < c) || (a == c && decide (b < d))) ∧ ro = [] := by
  refine spec_body cxn_ok [] [] (fn := Try.f101) (by kernel_rfl) rfl (by kernel_rfl) rfl (by unfold FnOK; kernel_rfl) fun hok => ?_
  refine And.intro (fun h1 => ?_) fun h1 => ?_
  · exact Exists.intro [] (ret_bool (by rw [h1]; rfl) rfl)
  refine And.intro (fun h2 => ?_) fun h2 => ?_
  · refine And.intro (fun h3 => ?_) fun h3 => ?_
    · exact Exists.intro [] (ret_bool (by rw [h1, h2, h3]; rfl) rfl)
    · exact Exists.intro [] (ret_bool (by rw [h1, h2, h3]; rfl) rfl)
  · exact Exists.intro [] (ret_bool (by rw [h1, h2]; rfl) rfl)

theorem f111_spec (a b : Int) (ha : -4611686018427387904 ≤ a ∧ a ≤ 4611686018427387904) (hb : -4611686018427387904 ≤ b ∧ b ≤ 4611686018427387904) (out : List Fr) :
    SpecP Try.prog 111 [.int a, .int b] out fun r ro => r = wideZ (a * b) ∧ ro = [] := by
  refine spec_body cx_ok [] [] (fn := Try.f111) (by kernel_rfl) rfl (by kernel_rfl) rfl (by unfold FnOK; kernel_rfl) fun hok => ?_
  have hA : ∀ x : Int, -4611686018427387904 ≤ x ∧ x ≤ 4611686018427387904 → 0 ≤ (if 0 - x > x then 0 - x else x) ∧ (if 0 - x > x then 0 - x else x) ≤ 4611686018427387904 ∧ ((x < 0 ∧ (if 0 - x > x then 0 - x else x) = -x) ∨ (0 ≤ x ∧ (if 0 - x > x then 0 - x else x) = x)) := fun x hx => by split <;> omega
  have ga := hA a ha
  have gb := hA b hb
  refine And.intro (by omega) (And.intro (by omega) (And.intro ga.1 (And.intro (by omega) (And.intro (by omega) (And.intro (by omega) (And.intro gb.1 (And.intro (by omega) ?_)))))))
  refine SpecP.mono (f90_spec _ _ ⟨ga.1, by omega⟩ ⟨gb.1, by omega⟩ _) ?_
  generalize (if 0 - a > a then 0 - a else a) = A at ga
  generalize (if 0 - b > b then 0 - b else b) = B at gb
  have hm : 0 ≤ A * B ∧ A * B ≤ 21267647932558653966460912964485513216 := ⟨Int.mul_nonneg ga.1 gb.1, Int.le_trans (Int.mul_le_mul ga.2.1 gb.2.1 gb.1 (by decide)) (by decide)⟩
  have hsgn : (decide (a < 0) = decide (b < 0) → a * b = A * B) ∧ (decide (a < 0) ≠ decide (b < 0) → a * b = -(A * B)) := by
    rcases ga.2.2 with ⟨h1, h2⟩ | ⟨h1, h2⟩ <;> rcases gb.2.2 with ⟨h3, h4⟩ | ⟨h3, h4⟩
    · rw [h2, h4, Int.neg_mul_neg]
      exact ⟨fun _ => rfl, fun h => absurd (by simp [h1, h3]) h⟩
    · have h5 : ¬ b < 0 := by omega
      rw [h2, h4, Int.neg_mul, Int.neg_neg]
      exact ⟨fun h => by simp [h1, h5] at h, fun _ => rfl⟩
    · have h5 : ¬ a < 0 := by omega
      rw [h2, h4, Int.mul_neg, Int.neg_neg]
      exact ⟨fun h => by simp [h3, h5] at h, fun _ => rfl⟩
    · have h5 : ¬ a < 0 := by omega
      have h6 : ¬ b < 0 := by omega
      rw [h2, h4]
      exact ⟨fun _ => rfl, fun h => absurd (by simp [h5, h6]) h⟩
  generalize A * B = n at hm hsgn
  rintro _ _ ⟨rfl, rfl⟩
  refine And.intro (fun h1 => ?_) fun h1 => ?_ <;> refine And.intro (fun h2 => ?_) fun h2 => ?_
  all_goals
    first
      | (refine And.intro (fun h => Bool.noConfusion h) fun _ => ?_
         have e := hsgn.1 (by rw [h1, h2])
         rw [e]
         exact Exists.intro [] ⟨rfl, rfl⟩)
      | (refine And.intro (fun _ => ?_) fun h => Bool.noConfusion h
         have e := hsgn.2 (by rw [h1, h2]; decide)
         refine SpecP.mono (f113_spec _ _ (by omega) (by omega) _) ?_
         rintro _ _ ⟨rfl, rfl⟩
         refine Exists.intro [] (And.intro ?_ rfl)
         rw [e]
         have e2 : n / 18446744073709551616 % 18446744073709551616 * 18446744073709551616 + n % 18446744073709551616 = n := by omega
         exact wide_eq (by rw [e2]) (by rw [e2]))

/-- Division, where the high word is none. -/
theorem f114_spec (x0 x y : Int) (h0 : x0 = 0) (hx : 0 ≤ x ∧ x < 18446744073709551616) (hy : 0 < y ∧ y < 18446744073709551616) (out : List Fr) :
    SpecP Try.prog 114 [.u64 x0, .u64 x, .u64 y] out fun r ro => r = .tup [.u64 (x / y), .u64 (x % y)] ∧ ro = [] := by
  refine spec_body cx_ok [] [(6, [(0, .pure), (1, .pure), (2, .pure), (3, .pure), (4, .pure), (5, .pure), (6, .pure), (7, .pure)])] (fn := Try.f114) (by kernel_rfl) rfl (by kernel_rfl) rfl (by unfold FnOK; kernel_rfl) fun hok => ?_
  subst h0
  refine And.intro (fun h => absurd (by simpa using h : y = 0) (by omega)) fun _ => ?_
  refine And.intro (fun h => absurd (of_decide_eq_true h) (by omega)) fun _ => ?_
  refine And.intro (fun _ => ?_) fun h => Bool.noConfusion h
  have e1 : x.tdiv y = x / y := Int.tdiv_eq_ediv_of_nonneg hx.1
  have e2 : x.tmod y = x % y := Int.tmod_eq_emod_of_nonneg hx.1
  have h1 : 0 ≤ x / y := Int.ediv_nonneg hx.1 (by omega)
  have h2 : x / y ≤ x := Int.ediv_le_self _ hx.1
  refine And.intro (by omega) (And.intro (by rw [e1]; exact h1) (And.intro (by rw [e1]; omega) (And.intro (by omega) ?_)))
  refine Exists.intro [] (And.intro ?_ rfl)
  show LV.tup [.u64 (x.tdiv y), .u64 (x.tmod y)] = _
  rw [e1, e2]

def cxk : Ctx := { cx with num := true }
theorem cxk_ok : cxk.OK Try.prog := ⟨cx_ok.mixed, cx_ok.tys, cx_ok.eqs, cx_ok.exts, cx_ok.srt⟩
/-- (a b - c d) / by, where this is a whole number that is not too large. -/
theorem f100_spec (a b c d y : Int) (ha : -4611686018427387904 ≤ a ∧ a ≤ 4611686018427387904) (hb : -4611686018427387904 ≤ b ∧ b ≤ 4611686018427387904) (hc : -4611686018427387904 ≤ c ∧ c ≤ 4611686018427387904)
    (hd : -4611686018427387904 ≤ d ∧ d ≤ 4611686018427387904) (hy : 0 < y ∧ y ≤ 4611686018427387904) (q : Int) (hq : a * b - c * d = q * y) (hz : -4611686018427387904 ≤ a * b - c * d ∧ a * b - c * d ≤ 4611686018427387904) (out : List Fr) :
    SpecP Try.prog 100 [.int a, .int b, .int c, .int d, .int y] out fun r ro => r = .int q ∧ ro = [] := by
  refine spec_body cxk_ok [] [] (fn := Try.f100) (by kernel_rfl) rfl (by kernel_rfl) rfl (by unfold FnOK; kernel_rfl) fun hok => ?_
  refine SpecP.mono (f111_spec a b ha hb _) ?_
  rintro _ _ ⟨rfl, rfl⟩
  refine SpecP.mono (f111_spec c d hc hd _) ?_
  rintro _ _ ⟨rfl, rfl⟩
  generalize a * b = m at hq hz
  generalize c * d = n at hq hz
  refine Exists.intro _ (And.intro (sub64 (by omega) (by omega) (by decide)) ?_)
  refine Exists.intro _ (And.intro (sub64 (by omega) (by omega) (by split <;> decide)) ?_)
  obtain ⟨z, rfl⟩ : ∃ z, m = n + z := ⟨m - n, by omega⟩
  have hz : -4611686018427387904 ≤ z ∧ z ≤ 4611686018427387904 := by omega
  have hq : z = q * y := by omega
  have hH : (((n + z) / 18446744073709551616 % 18446744073709551616 - n / 18446744073709551616 % 18446744073709551616 - if (n + z) % 18446744073709551616 < n % 18446744073709551616 + 0 then 1 else 0) % 18446744073709551616) = z / 18446744073709551616 % 18446744073709551616 := by
    split <;> omega
  have hL : ((n + z) % 18446744073709551616 - n % 18446744073709551616 - 0) % 18446744073709551616 = z % 18446744073709551616 := by omega
  generalize (((n + z) / 18446744073709551616 % 18446744073709551616 - n / 18446744073709551616 % 18446744073709551616 - if (n + z) % 18446744073709551616 < n % 18446744073709551616 + 0 then 1 else 0) % 18446744073709551616) = H at hH ⊢
  generalize ((n + z) % 18446744073709551616 - n % 18446744073709551616 - 0) % 18446744073709551616 = L at hL ⊢
  have hs63 : H.fdiv (2 ^ min (63 : Int).toNat IntKind.u64.bits) = H / 9223372036854775808 := by
    show H.fdiv 9223372036854775808 = _
    exact Int.fdiv_eq_ediv_of_nonneg _ (by decide)
  have wy : IntKind.u64.wrap y = y := by rw [wrapU]; omega
  refine And.intro (by decide) ?_
  refine And.intro (fun h1 => ?_) fun h1 => ?_
  · have h1 : H / 9223372036854775808 = 1 := by rw [hs63] at h1; simpa using h1
    have hz0 : z < 0 := by omega
    refine SpecP.mono (f113_spec H L (by omega) (by omega) _) ?_
    rintro _ _ ⟨rfl, rfl⟩
    have e1 : -(H * 18446744073709551616 + L) / 18446744073709551616 % 18446744073709551616 = 0 := by omega
    have e2 : -(H * 18446744073709551616 + L) % 18446744073709551616 = -z := by omega
    intro y1 hy1
    rw [wy] at hy1
    subst hy1
    refine And.intro (fun h2 => absurd (of_decide_eq_true h2) (by omega)) fun _ => ?_
    intro y1 hy1
    rw [wy] at hy1
    subst hy1
    refine SpecP.mono (f114_spec _ _ y1 e1 (by omega) (by omega) _) ?_
    rintro _ _ ⟨rfl, rfl⟩
    have e3 : -(H * 18446744073709551616 + L) % 18446744073709551616 / y1 = -q := by
      rw [e2, hq, ← Int.neg_mul]
      exact Int.mul_ediv_cancel _ (by omega)
    have hb1 : 0 ≤ -z / y1 := Int.ediv_nonneg (by omega) (by omega)
    have hb2 : -z / y1 ≤ -z := Int.ediv_le_self _ (by omega)
    rw [← e2, e3] at hb1 hb2
    refine And.intro (fun h2 => absurd (of_decide_eq_true h2) (by omega)) fun _ => ?_
    intro m1 hm1
    rw [e3, wrap_in (k := .i64) (by show (-9223372036854775808 : Int) ≤ _; omega) (by show _ ≤ (9223372036854775807 : Int); omega)] at hm1
    subst hm1
    refine And.intro (by omega) (And.intro (by omega) ?_)
    refine Exists.intro [] (And.intro ?_ rfl)
    show LV.int (0 - -q) = .int q
    rw [show 0 - -q = q by omega]
  · have h1 : H / 9223372036854775808 ≠ 1 := by rw [hs63] at h1; simpa using h1
    have hz0 : 0 ≤ z := by omega
    intro y1 hy1
    rw [wy] at hy1
    subst hy1
    refine And.intro (fun h2 => absurd (of_decide_eq_true h2) (by omega)) fun _ => ?_
    intro y1 hy1
    rw [wy] at hy1
    subst hy1
    refine SpecP.mono (f114_spec _ _ y1 (by omega) (by omega) (by omega) _) ?_
    rintro _ _ ⟨rfl, rfl⟩
    have e3 : L / y1 = q := by
      rw [show L = z by omega, hq]
      exact Int.mul_ediv_cancel _ (by omega)
    have hb1 : 0 ≤ L / y1 := Int.ediv_nonneg (by omega) (by omega)
    have hb2 : L / y1 ≤ L := Int.ediv_le_self _ (by omega)
    rw [e3] at hb1 hb2
    refine And.intro (fun h2 => absurd (of_decide_eq_true h2) (by omega)) fun _ => ?_
    intro m1 hm1
    rw [e3, wrap_in (k := .i64) (by show (-9223372036854775808 : Int) ≤ _; omega) (by show _ ≤ (9223372036854775807 : Int); omega)] at hm1
    subst hm1
    exact Exists.intro [] ⟨rfl, rfl⟩

end Go.Fw

/- What a condition says of each fact; ranges; the first column that improves. -/
namespace Go.Fw
open Go Go.Proofs
set_option maxRecDepth 10000

def signStep (b : List Int) (x : Lit) : List Int := match x.neg with
  | true => (b.set x.fact.toNat 1).set x.fact.toNat (-1)
  | false => b.set x.fact.toNat 1
def signsL (n : Nat) (l : List Lit) : List Int := l.foldl signStep (List.replicate n 0)
theorem signStep_len (b : List Int) (x : Lit) : (signStep b x).length = b.length := by
  unfold signStep; split <;> simp
theorem signs_len (l : List Lit) : ∀ b : List Int, (l.foldl signStep b).length = b.length := by
  induction l with
  | nil => intro b; rfl
  | cons x r ih => intro b; rw [List.foldl_cons, ih, signStep_len]
theorem signsL_len (n : Nat) (l : List Lit) : (signsL n l).length = n := by rw [signsL, signs_len, List.length_replicate]

def kp73 : Kp := [(3, ([5, 12, 13, 14], [16, 88]))]
theorem f73_spec (t : Task) (n1 : Bool) (l : List Lit) (hN : t.facts.length ≤ 1000000) (hl : ∀ x ∈ l, litIn t.facts.length x) (out : List Fr) :
    SpecP Try.prog 73 [.task t, .lits n1 l] out fun r ro => r = .ints false (signsL t.facts.length l) ∧ ro = [] := by
  refine SpecP.close (Post := fun r ro => r = .osl (.cur 88) 1 0 (t.facts.map tS).length ∧ ro = [(88, .row 3 1 ((signsL t.facts.length l).map tI))]) ?_ ?_
  rotate_left
  · rintro r ro ⟨rfl, rfl⟩
    have e : (t.facts.map tS).length = ((signsL t.facts.length l).map tI).length := by rw [List.length_map, List.length_map, signsL_len]
    rw [e]
    refine ⟨_, .row 88 3 1 0 _ ((signsL t.facts.length l).map tI) (by rw [look_cons, if_pos rfl]) (by simp), ?_, rfl⟩
    rw [← take_all]
  refine spec_body cx_ok kp73 [] (fn := Try.f73) (by kernel_rfl) rfl (by kernel_rfl) rfl (by unfold FnOK; kernel_rfl) fun hok => ?_
  have hmx := le_max hok.2.1.1
  have hfl : (t.facts.map tS).length = t.facts.length := List.length_map ..
  refine And.intro rfl (And.intro (by omega) (And.intro (by show ((t.facts.map tS).length : Int) * (8 : Nat) ≤ _; omega) (And.intro (by omega) ?_)))
  refine LoopW.mk (Nat × List Int) (fun u => u.1 ≤ l.length ∧ u.2 = (l.take u.1).foldl signStep (List.replicate t.facts.length 0))
    (fun u => [(5, .osl (.cur 88) 1 0 (t.facts.map tS).length), (12, .lits n1 l), (13, .int (l.map tLit).length), (14, .int u.1)])
    (fun u => ⟨out, [(16, .box (cellsTask t)), (88, .row 3 1 (u.2.map tI))]⟩) (fun u => l.length - u.1) (0, List.replicate (t.facts.map tS).length 0) ⟨Nat.zero_le _, by rw [hfl]; rfl⟩ ⟨rfl, ?_⟩ ?_
  · show (⟨out, [(16, .box (cellsTask t)), (88, .row 3 1 (List.replicate (t.facts.map tS).length (tI 0)))]⟩ : St) = _
    rw [List.map_replicate]
  rintro ⟨i, b⟩ ⟨hi0, hb⟩
  simp only at hi0 hb
  refine And.intro (fun h1 => ?_) fun h1 => ?_
  · have hi : i < l.length := lt_of_dec h1
    have hx : litIn t.facts.length l[i] := hl _ (List.getElem_mem hi)
    have hbl : b.length = t.facts.length := by rw [hb, signs_len, List.length_replicate]
    have hfn : l[i].fact.toNat < b.length := by have h2 := hx.1; have h3 := hx.2; omega
    have hstep : signStep b l[i] = (l.take (i + 1)).foldl signStep (List.replicate t.facts.length 0) := by
      rw [List.take_add_one, List.getElem?_eq_getElem hi, Option.toList_some, List.foldl_append, ← hb]; rfl
    refine And.intro (by omega) (Exists.intro (tLit l[i]) (And.intro (get_map hi) ?_))
    refine And.intro hx.1 (And.intro (by have := hx.2; omega) (Exists.intro (tI b[l[i].fact.toNat]) (And.intro (by show (b.map tI)[_]? = _; rw [Nat.zero_add, List.getElem?_map, List.getElem?_eq_getElem hfn]; rfl) (And.intro (Nat.le_refl 1) ?_))))
    refine And.intro (fun h2 => ?_) fun h2 => ?_
    · refine And.intro hx.1 (And.intro (by have := hx.2; omega) (Exists.intro (tI 1) (And.intro (by show ((b.map tI).set _ _)[_]? = _; exact List.getElem?_set_self (by rw [List.length_map]; omega)) (And.intro (Nat.le_refl 1) ?_))))
      refine And.intro (by omega) (And.intro (by omega) ?_)
      refine Exists.intro (i + 1, signStep b l[i]) (And.intro (by show l.length - (i + 1) < l.length - i; omega) (And.intro ⟨hi, hstep⟩ (And.intro rfl ?_)))
      have e : (signStep b l[i]).map tI = ((b.map tI).set (0 + l[i].fact.toNat) (tI 1)).set (0 + l[i].fact.toNat) (tI (-1)) := by
        rw [Nat.zero_add, signStep, h2]; simp only [List.map_set]
      show _ = (⟨out, [(16, .box (cellsTask t)), (88, .row 3 1 ((signStep b l[i]).map tI))]⟩ : St)
      rw [e]
      rfl
    · refine And.intro (by omega) (And.intro (by omega) ?_)
      refine Exists.intro (i + 1, signStep b l[i]) (And.intro (by show l.length - (i + 1) < l.length - i; omega) (And.intro ⟨hi, hstep⟩ (And.intro rfl ?_)))
      have e : (signStep b l[i]).map tI = (b.map tI).set (0 + l[i].fact.toNat) (tI 1) := by
        rw [Nat.zero_add, signStep, h2]; simp only [List.map_set]
      show _ = (⟨out, [(16, .box (cellsTask t)), (88, .row 3 1 ((signStep b l[i]).map tI))]⟩ : St)
      rw [e]
      rfl
  · have hi : i = l.length := by have := ge_of_dec h1; omega
    refine Exists.intro [88] ⟨rfl, ?_⟩
    rw [hi, List.take_length] at hb
    show [((88 : Nat), Ob.row 3 1 (b.map tI))] = _
    rw [hb]; rfl

theorem f83_spec (x : Int) (out : List Fr) : SpecP Try.prog 83 [.int x] out fun r ro => r = .bool (decide (-1125899906842624 ≤ x) && decide (x ≤ 1125899906842624)) ∧ ro = [] := by
  refine spec_body cx_ok [] [] (fn := Try.f83) (by kernel_rfl) rfl (by kernel_rfl) rfl (by unfold FnOK; kernel_rfl) fun hok => ?_
  refine And.intro (fun h1 => ?_) fun h1 => ?_
  · have h1' : decide (-1125899906842624 ≤ x) = true := h1
    refine And.intro (fun h2 => ?_) fun h2 => ?_
    · exact Exists.intro [] (ret_bool (by rw [h1', h2]; rfl) rfl)
    · exact Exists.intro [] (ret_bool (by rw [h1', h2]; rfl) rfl)
  · have h1' : decide (-1125899906842624 ≤ x) = false := h1
    exact Exists.intro [] (ret_bool (by rw [h1']; rfl) rfl)

/-- The first column that improves. -/
def firstF : List Int → Nat → Int
  | [], _ => -1
  | x :: r, i => if x < 0 then (i : Int) else firstF r (i + 1)
theorem firstF_get : ∀ (l : List Int) (i k : Nat) (hi : i < l.length), firstF (l.drop i) k = if l[i] < 0 then (k : Int) else firstF (l.drop (i + 1)) (k + 1) := fun l i k hi => by
  rw [List.drop_eq_getElem_cons hi, firstF]
def kp71 : Kp := [(2, ([9, 10, 11], []))]
theorem f71_spec (n1 : Bool) (l : List Int) (h0 : 0 < l.length) (out : List Fr) : SpecP Try.prog 71 [.ints n1 l] out fun r ro => r = .int (firstF (l.take (l.length - 1)) 0) ∧ ro = [] := by
  refine spec_body cx_ok kp71 [] (fn := Try.f71) (by kernel_rfl) rfl (by kernel_rfl) rfl (by unfold FnOK; kernel_rfl) fun hok => ?_
  have hmx := le_max hok.1.1
  have hml : (l.map tI).length = l.length := List.length_map ..
  have hE : ((l.map tI).take (((l.map tI).length : Int) - 1).toNat).drop 0 = (l.take (l.length - 1)).map tI := by
    rw [List.drop_zero, List.map_take, hml, show ((l.length : Int) - 1).toNat = l.length - 1 by omega]
  generalize hL : l.take (l.length - 1) = L at hE
  have hLl : L.length ≤ l.length := by rw [← hL, List.length_take]; omega
  refine And.intro (by omega) (And.intro (by omega) (And.intro (by decide) (And.intro (by show (0 : Int) ≤ ((l.map tI).length : Int) - 1; omega) (And.intro (by show ((l.map tI).length : Int) - 1 ≤ _; omega) ?_))))
  refine LoopW.mk Nat (fun i => i ≤ L.length ∧ firstF L 0 = firstF (L.drop i) i) (fun i => [(9, .ints n1 L), (10, .int (L.map tI).length), (11, .int i)]) (fun _ => ⟨out, []⟩) (fun i => L.length - i) 0 ⟨Nat.zero_le _, by rw [List.drop_zero]⟩ ⟨?_, rfl⟩ fun i hI => ?_
  · show [((9 : Nat), LV.t (T.sl n1 1 (((l.map tI).take (((l.map tI).length : Int) - 1).toNat).drop 0))), (10, .int (((l.map tI).take (((l.map tI).length : Int) - 1).toNat).drop 0).length), (11, .int 0)] = _
    rw [hE]; rfl
  refine And.intro (fun h1 => ?_) fun h1 => ?_
  · have hi : i < L.length := lt_of_dec h1
    have hg := firstF_get L i i hi
    refine And.intro (by omega) (Exists.intro _ (And.intro (get_map hi) ?_))
    refine And.intro (fun h2 => ?_) fun h2 => ?_
    · refine Exists.intro [] (And.intro ?_ rfl)
      rw [hI.2, hg, if_pos (of_decide_eq_true h2)]
      rfl
    · refine And.intro (by omega) (And.intro (by omega) ?_)
      exact Exists.intro (i + 1) (And.intro (by show L.length - (i + 1) < L.length - i; omega) (And.intro ⟨hi, by rw [hI.2, hg, if_neg (of_decide_eq_false h2)]⟩ (And.intro rfl rfl)))
  · have hi : i = L.length := by have := ge_of_dec h1; have := hI.1; omega
    refine Exists.intro [] (And.intro ?_ rfl)
    rw [hI.2, hi, List.drop_length]
    rfl

def kp59 : Kp := [(1, ([0, 1], []))]
theorem f59_spec (a b : Int) (ha : -4611686018427387904 ≤ a ∧ a ≤ 4611686018427387904) (hb : -4611686018427387904 ≤ b ∧ b ≤ 4611686018427387904) (out : List Fr) :
    SpecP Try.prog 59 [.int a, .int b] out fun r ro => ∃ g : Int, r = .int g ∧ g = (Int.gcd a b : Int) ∧ ro = [] := by
  refine spec_body cx_ok kp59 [] (fn := Try.f59) (by kernel_rfl) rfl (by kernel_rfl) rfl (by unfold FnOK; kernel_rfl) fun hok => ?_
  refine LoopW.mk (Int × Int) (fun u => Int.gcd u.1 u.2 = Int.gcd a b ∧ (-4611686018427387904 ≤ u.1 ∧ u.1 ≤ 4611686018427387904) ∧ (-4611686018427387904 ≤ u.2 ∧ u.2 ≤ 4611686018427387904)) (fun u => [(0, .int u.1), (1, .int u.2)]) (fun _ => ⟨out, []⟩) (fun u => u.1.natAbs) (a, b) ⟨rfl, ha, hb⟩ ⟨rfl, rfl⟩ ?_
  rintro ⟨x, y⟩ ⟨hg, hx, hy⟩
  simp only at hg hx hy
  refine And.intro (fun h1 => ?_) fun h1 => ?_
  · have hx0 : x ≠ 0 := by simpa using h1
    have hab : (y.tmod x).natAbs = y.natAbs % x.natAbs := Int.natAbs_tmod ..
    have hlt : (y.tmod x).natAbs < x.natAbs := by rw [hab]; exact Nat.mod_lt _ (by omega)
    refine And.intro hx0 ?_
    refine Exists.intro (y.tmod x, x) (And.intro hlt (And.intro ⟨?_, by omega, hx⟩ (And.intro rfl rfl)))
    rw [← hg]
    show Nat.gcd (y.tmod x).natAbs x.natAbs = Nat.gcd x.natAbs y.natAbs
    rw [hab, ← Nat.gcd_rec]
  · have hx0 : x = 0 := by simpa using h1
    refine And.intro (by show (-9223372036854775808 : Int) ≤ 0 - y; omega) (And.intro (by show 0 - y ≤ (9223372036854775807 : Int); omega) ?_)
    refine Exists.intro [] (Exists.intro (if 0 - y > y then 0 - y else y) ⟨rfl, ?_, rfl⟩)
    rw [← hg, hx0, Int.gcd_zero_left]
    split <;> omega

end Go.Fw

/- How an action changes each fact. -/
namespace Go.Fw
open Go Go.Proofs
set_option maxRecDepth 10000

def madeStep (b : List Int) (e : Eff) : List Int := match e.lit.neg with
  | false => b.set e.lit.fact.toNat 1
  | true => if b.getD e.lit.fact.toNat 0 = 0 then b.set e.lit.fact.toNat (-1) else b
def madeL (n : Nat) (l : List Eff) : List Int := l.foldl madeStep (List.replicate n 0)
theorem madeStep_len (b : List Int) (x : Eff) : (madeStep b x).length = b.length := by
  unfold madeStep; split <;> (try split) <;> simp
theorem made_len (l : List Eff) : ∀ b : List Int, (l.foldl madeStep b).length = b.length := by
  induction l with
  | nil => intro b; rfl
  | cons x r ih => intro b; rw [List.foldl_cons, ih, madeStep_len]
theorem madeL_len (n : Nat) (l : List Eff) : (madeL n l).length = n := by rw [madeL, made_len, List.length_replicate]
def changeI (m p : Int) : Int :=
  if m = 1 then (if p = -1 then 1 else if p = 0 then 2 else 0) else if m = -1 then (if p = 1 then 3 else if p = 0 then 4 else 0) else 0
def changesL (n : Nat) (a : Actn) : List Int := List.zipWith changeI (madeL n a.effs) (signsL n a.pre)

def kp72 : Kp := [(3, ([2, 3, 5, 17, 18, 19], [16, 24, 120])), (13, ([8, 9, 55, 56, 57], [120, 432]))]
set_option maxHeartbeats 4000000 in
theorem f72_spec (t : Task) (a : Actn) (hN : t.facts.length ≤ 1000000) (hp : ∀ x ∈ a.pre, litIn t.facts.length x) (he : ∀ e ∈ a.effs, litIn t.facts.length e.lit) (out : List Fr) :
    SpecP Try.prog 72 [.task t, .act a] out fun r ro => r = .ints false (changesL t.facts.length a) ∧ ro = [] := by
  refine SpecP.close (Post := fun r ro => r = .osl (.cur 432) 1 0 (t.facts.map tS).length ∧ ro = [(432, .row 3 1 ((changesL t.facts.length a).map tI))]) ?_ ?_
  rotate_left
  · rintro r ro ⟨rfl, rfl⟩
    have e : (t.facts.map tS).length = ((changesL t.facts.length a).map tI).length := by rw [List.length_map, List.length_map, changesL, List.length_zipWith, madeL_len, signsL_len, Nat.min_self]
    rw [e]
    refine ⟨_, .row 432 3 1 0 _ ((changesL t.facts.length a).map tI) (by rw [look_cons, if_pos rfl]) (by simp), ?_, rfl⟩
    rw [← take_all]
  refine spec_body cx_ok kp72 [] (fn := Try.f72) (by kernel_rfl) rfl (by kernel_rfl) rfl (by unfold FnOK; kernel_rfl) fun hok => ?_
  have hme := le_max hok.2.1.2.2.2.1.1
  have hfl : (t.facts.map tS).length = t.facts.length := List.length_map ..
  refine And.intro rfl (And.intro (by omega) (And.intro (by show ((t.facts.map tS).length : Int) * (8 : Nat) ≤ _; omega) (And.intro (by omega) ?_)))
  refine LoopW.mk (Nat × List Int) (fun u => u.1 ≤ a.effs.length ∧ u.2 = (a.effs.take u.1).foldl madeStep (List.replicate t.facts.length 0))
    (fun u => [(2, .ptr (.cur 16) 0), (3, .ptr (.cur 24) 0), (5, .osl (.cur 120) 1 0 (t.facts.map tS).length), (17, .effs a.en a.effs), (18, .int (a.effs.map tEff).length), (19, .int u.1)])
    (fun u => ⟨out, [(16, .box (cellsTask t)), (24, .box [.t (.v (.string a.name)), .int a.cost, .lits a.pn a.pre, .effs a.en a.effs]), (120, .row 3 1 (u.2.map tI))]⟩) (fun u => a.effs.length - u.1) (0, List.replicate (t.facts.map tS).length 0) ⟨Nat.zero_le _, by rw [hfl]; rfl⟩ ⟨rfl, ?_⟩ ?_
  · show (⟨out, [(16, .box (cellsTask t)), (24, .box [.t (.v (.string a.name)), .int a.cost, .lits a.pn a.pre, .effs a.en a.effs]), (120, .row 3 1 (List.replicate (t.facts.map tS).length (tI 0)))]⟩ : St) = _
    rw [List.map_replicate]
  rintro ⟨i, b⟩ ⟨hi0, hb⟩
  simp only at hi0 hb
  refine And.intro (fun h1 => ?_) fun h1 => ?_
  · have hi : i < a.effs.length := lt_of_dec h1
    have hx : litIn t.facts.length a.effs[i].lit := he _ (List.getElem_mem hi)
    have hbl : b.length = t.facts.length := by rw [hb, made_len, List.length_replicate]
    have hfn : a.effs[i].lit.fact.toNat < b.length := by have h2 := hx.1; have h3 := hx.2; omega
    have hstep : madeStep b a.effs[i] = (a.effs.take (i + 1)).foldl madeStep (List.replicate t.facts.length 0) := by
      rw [List.take_add_one, List.getElem?_eq_getElem hi, Option.toList_some, List.foldl_append, ← hb]; rfl
    refine And.intro (by omega) (Exists.intro (tEff a.effs[i]) (And.intro (get_map hi) ?_))
    have hget : (b.map tI)[0 + a.effs[i].lit.fact.toNat]? = some (tI b[a.effs[i].lit.fact.toNat]) := by rw [Nat.zero_add, List.getElem?_map, List.getElem?_eq_getElem hfn]; rfl
    have hgd : b.getD a.effs[i].lit.fact.toNat 0 = b[a.effs[i].lit.fact.toNat] := by rw [List.getD_eq_getElem?_getD, List.getElem?_eq_getElem hfn]; rfl
    have fin : ∀ v : Int, (b.map tI).set (0 + a.effs[i].lit.fact.toNat) (tI v) = (b.set a.effs[i].lit.fact.toNat v).map tI := fun v => by rw [Nat.zero_add, List.map_set]
    refine And.intro (fun h2 => ?_) fun h2 => ?_
    · refine And.intro hx.1 (And.intro (by have := hx.2; omega) (Exists.intro _ (And.intro hget ?_)))
      refine And.intro (fun h3 => ?_) fun h3 => ?_
      · refine And.intro hx.1 (And.intro (by have := hx.2; omega) (Exists.intro _ (And.intro hget (And.intro (Nat.le_refl 1) ?_))))
        refine And.intro (by omega) (And.intro (by omega) ?_)
        refine Exists.intro (i + 1, madeStep b a.effs[i]) (And.intro (by show a.effs.length - (i + 1) < a.effs.length - i; omega) (And.intro ⟨hi, hstep⟩ (And.intro rfl ?_)))
        have e : madeStep b a.effs[i] = b.set a.effs[i].lit.fact.toNat (-1) := by
          have h3' : b[a.effs[i].lit.fact.toNat] = 0 := by simpa using h3
          unfold madeStep; rw [h2]; simp only []; rw [hgd, if_pos h3']
        rw [e]
        exact congrArg (fun z => (⟨out, [(16, .box (cellsTask t)), (24, .box [.t (.v (.string a.name)), .int a.cost, .lits a.pn a.pre, .effs a.en a.effs]), (120, .row 3 1 z)]⟩ : St)) (fin (-1))
      · refine And.intro (by omega) (And.intro (by omega) ?_)
        refine Exists.intro (i + 1, madeStep b a.effs[i]) (And.intro (by show a.effs.length - (i + 1) < a.effs.length - i; omega) (And.intro ⟨hi, hstep⟩ (And.intro rfl ?_)))
        have e : madeStep b a.effs[i] = b := by
          have h3' : b[a.effs[i].lit.fact.toNat] ≠ 0 := by simpa using h3
          unfold madeStep; rw [h2]; simp only []; rw [hgd, if_neg h3']
        rw [e]
        rfl
    · refine And.intro hx.1 (And.intro (by have := hx.2; omega) (Exists.intro _ (And.intro hget (And.intro (Nat.le_refl 1) ?_))))
      refine And.intro (by omega) (And.intro (by omega) ?_)
      refine Exists.intro (i + 1, madeStep b a.effs[i]) (And.intro (by show a.effs.length - (i + 1) < a.effs.length - i; omega) (And.intro ⟨hi, hstep⟩ (And.intro rfl ?_)))
      have e : madeStep b a.effs[i] = b.set a.effs[i].lit.fact.toNat 1 := by
        unfold madeStep; rw [h2]
      rw [e]
      exact congrArg (fun z => (⟨out, [(16, .box (cellsTask t)), (24, .box [.t (.v (.string a.name)), .int a.cost, .lits a.pn a.pre, .effs a.en a.effs]), (120, .row 3 1 z)]⟩ : St)) (fin 1)
  · have hi : i = a.effs.length := by have := ge_of_dec h1; omega
    have hb0 := hb
    have hb : b = madeL t.facts.length a.effs := by rw [hb0, hi, List.take_length]; rfl
    have hbl : b.length = t.facts.length := by rw [hb, madeL_len]
    refine SpecP.mono (f73_spec t a.pn a.pre hN hp []) ?_
    rintro _ _ ⟨rfl, rfl⟩
    refine And.intro rfl (And.intro (by omega) (And.intro (by show ((t.facts.map tS).length : Int) * (8 : Nat) ≤ _; omega) (And.intro (by omega) ?_)))
    have hSl := signsL_len t.facts.length a.pre
    have hWl : (changesL t.facts.length a).length = t.facts.length := by rw [changesL, List.length_zipWith, madeL_len, signsL_len, Nat.min_self]
    have hW : ∀ j (h1 : j < b.length) (h2 : j < (signsL t.facts.length a.pre).length), (changesL t.facts.length a)[j]? = some (changeI b[j] (signsL t.facts.length a.pre)[j]) := fun j h1 h2 => by
      subst hb
      rw [changesL, List.getElem?_zipWith, List.getElem?_eq_getElem h1, List.getElem?_eq_getElem h2]
    generalize changesL t.facts.length a = W at hWl hW
    generalize signsL t.facts.length a.pre = S at hSl hW
    refine LoopW.mk (Nat × List Int) (fun u => u.1 ≤ t.facts.length ∧ u.2 = W.take u.1 ++ List.replicate (t.facts.length - u.1) 0)
      (fun u => [(8, .ints false S), (9, .osl (.cur 432) 1 0 (t.facts.map tS).length), (55, .osl (.cur 120) 1 0 (t.facts.map tS).length), (56, .int (t.facts.map tS).length), (57, .int u.1)])
      (fun u => ⟨out, [(120, .row 3 1 (b.map tI)), (432, .row 3 1 (u.2.map tI))]⟩) (fun u => t.facts.length - u.1) (0, List.replicate (t.facts.map tS).length 0) ⟨Nat.zero_le _, by rw [hfl]; rfl⟩ ⟨rfl, ?_⟩ ?_
    · show (⟨out, [(120, .row 3 1 (b.map tI)), (432, .row 3 1 (List.replicate (t.facts.map tS).length (tI 0)))]⟩ : St) = _
      rw [List.map_replicate]
    clear hb0
    rintro ⟨j, o⟩ ⟨hj0, ho⟩
    simp only at hj0 ho
    have hol : o.length = t.facts.length := by rw [ho, List.length_append, List.length_take, List.length_replicate]; omega
    refine And.intro (fun h2 => ?_) fun h2 => ?_
    · have hj : j < t.facts.length := by
        have h2' : (j : Int) < (((t.facts.map tS).length : Nat) : Int) := of_decide_eq_true h2
        omega
      have hjb : j < b.length := by omega
      have hjS : j < S.length := by omega
      have hw := hW j hjb hjS
      have hset : ∀ v : Int, changeI b[j] S[j] = v → o.set j v = W.take (j + 1) ++ List.replicate (t.facts.length - (j + 1)) 0 := fun v hv => by
        rw [hv] at hw
        have hl : (W.take j).length = j := by rw [List.length_take]; omega
        rw [ho, List.set_append_right _ _ (by omega), hl, Nat.sub_self, show t.facts.length - j = (t.facts.length - (j + 1)) + 1 by omega, List.replicate_succ, List.set_cons_zero, List.take_add_one, hw, Option.toList_some, List.append_assoc]
        rfl
      have hsame : changeI b[j] S[j] = 0 → o = W.take (j + 1) ++ List.replicate (t.facts.length - (j + 1)) 0 := fun hv => by
        rw [hv] at hw
        rw [ho, show t.facts.length - j = (t.facts.length - (j + 1)) + 1 by omega, List.replicate_succ, List.take_add_one, hw, Option.toList_some, List.append_assoc]
        rfl
      clear hw hW
      have hgb : (b.map tI)[0 + ((j : Nat) : Int).toNat]? = some (tI b[j]) := by rw [Nat.zero_add, Int.toNat_natCast, List.getElem?_map, List.getElem?_eq_getElem hjb]; rfl
      have hgS : (S.map tI)[((j : Nat) : Int).toNat]? = some (tI S[j]) := by rw [Int.toNat_natCast, List.getElem?_map, List.getElem?_eq_getElem hjS]; rfl
      have hgo : ∃ el, (o.map tI)[0 + ((j : Nat) : Int).toNat]? = some [el] := ⟨_, by rw [Nat.zero_add, Int.toNat_natCast, List.getElem?_map, List.getElem?_eq_getElem (by omega)]; rfl⟩
      obtain ⟨el, hgo⟩ := hgo
      generalize b[j] = m at hset hsame hgb
      generalize S[j] = q at hset hsame hgS
      have hst : ∀ v : Int, (o.map tI).set (0 + ((j : Nat) : Int).toNat) (tI v) = (o.set j v).map tI := fun v => by rw [Nat.zero_add, Int.toNat_natCast, List.map_set]
      refine And.intro (Int.natCast_nonneg _) (And.intro (Int.ofNat_lt.2 (by omega)) (Exists.intro _ (And.intro hgb ?_)))
      clear hgb ho hb hbl
      repeat' (first
        | refine And.intro (Int.natCast_nonneg _) (Exists.intro _ (And.intro hgS ?_))
        | refine And.intro (fun _ => ?_) fun _ => ?_
        | fail)
      all_goals
        first
          | refine And.intro (Int.natCast_nonneg _) (And.intro (Int.ofNat_lt.2 (by omega)) (Exists.intro _ (And.intro hgo (And.intro (Nat.le_refl 1) ?_))))
          | skip
        refine And.intro (by show (-9223372036854775808 : Int) ≤ (j : Int) + 1; omega) (And.intro (by show (j : Int) + 1 ≤ 9223372036854775807; omega) ?_)
        clear hgS hgo
        first
          | exact Exists.intro (j + 1, o.set j 1) (And.intro (by show t.facts.length - (j + 1) < t.facts.length - j; omega) (And.intro ⟨hj, hset 1 (by clear hset hsame hst hN hp he hok hme; simp_all [changeI])⟩ (And.intro rfl (congrArg (fun z => (⟨out, [(120, .row 3 1 (b.map tI)), (432, .row 3 1 z)]⟩ : St)) (hst 1)))))
          | exact Exists.intro (j + 1, o.set j 2) (And.intro (by show t.facts.length - (j + 1) < t.facts.length - j; omega) (And.intro ⟨hj, hset 2 (by clear hset hsame hst hN hp he hok hme; simp_all [changeI])⟩ (And.intro rfl (congrArg (fun z => (⟨out, [(120, .row 3 1 (b.map tI)), (432, .row 3 1 z)]⟩ : St)) (hst 2)))))
          | exact Exists.intro (j + 1, o.set j 3) (And.intro (by show t.facts.length - (j + 1) < t.facts.length - j; omega) (And.intro ⟨hj, hset 3 (by clear hset hsame hst hN hp he hok hme; simp_all [changeI])⟩ (And.intro rfl (congrArg (fun z => (⟨out, [(120, .row 3 1 (b.map tI)), (432, .row 3 1 z)]⟩ : St)) (hst 3)))))
          | exact Exists.intro (j + 1, o.set j 4) (And.intro (by show t.facts.length - (j + 1) < t.facts.length - j; omega) (And.intro ⟨hj, hset 4 (by clear hset hsame hst hN hp he hok hme; simp_all [changeI])⟩ (And.intro rfl (congrArg (fun z => (⟨out, [(120, .row 3 1 (b.map tI)), (432, .row 3 1 z)]⟩ : St)) (hst 4)))))
          | exact Exists.intro (j + 1, o) (And.intro (by show t.facts.length - (j + 1) < t.facts.length - j; omega) (And.intro ⟨hj, hsame (by clear hset hsame hst hN hp he hok hme; simp_all [changeI])⟩ (And.intro rfl rfl)))
    · have hj : j = t.facts.length := by have := of_decide_eq_false h2; omega
      refine Exists.intro [432] ⟨rfl, ?_⟩
      show [((432 : Nat), Ob.row 3 1 (o.map tI))] = _
      rw [ho, hj, Nat.sub_self, List.take_of_length_le (by omega)]
      simp

end Go.Fw

/- The reference: what literals say of a fact. -/
namespace Go.Fw
open Go Go.Proofs
set_option maxRecDepth 10000

def saysF : List Lit → Int → Int
  | [], _ => 0
  | x :: r, f => if x.fact = f then (if x.neg then -1 else 1) else saysF r f
theorem saysF_get {l : List Lit} {i : Nat} {f : Int} (hi : i < l.length) : saysF (l.drop i) f = if l[i].fact = f then (if l[i].neg then -1 else 1) else saysF (l.drop (i + 1)) f := by
  rw [List.drop_eq_getElem_cons hi, saysF]
def kp57 : Kp := [(2, ([1, 7, 8, 9], []))]
theorem f57_spec (n1 : Bool) (l : List Lit) (f : Int) (out : List Fr) : SpecP Try.prog 57 [.lits n1 l, .int f] out fun r ro => r = .int (saysF l f) ∧ ro = [] := by
  refine spec_body cx_ok kp57 [] (fn := Try.f57) (by kernel_rfl) rfl (by kernel_rfl) rfl (by unfold FnOK; kernel_rfl) fun hok => ?_
  have hmx := le_max hok.1.1
  refine LoopW.mk Nat (fun i => i ≤ l.length ∧ saysF l f = saysF (l.drop i) f) (fun i => [(1, .int f), (7, .lits n1 l), (8, .int (l.map tLit).length), (9, .int i)]) (fun _ => ⟨out, []⟩) (fun i => l.length - i) 0 ⟨Nat.zero_le _, rfl⟩ ⟨rfl, rfl⟩ fun i hI => ?_
  refine And.intro (fun h1 => ?_) fun h1 => ?_
  · have hi : i < l.length := lt_of_dec h1
    have hg := saysF_get (f := f) hi
    refine And.intro (by omega) (Exists.intro (tLit l[i]) (And.intro (get_map hi) ?_))
    refine And.intro (fun h2 => ?_) fun h2 => ?_
    · have h2' : l[i].fact = f := by simpa using h2
      refine And.intro (fun h3 => ?_) fun h3 => ?_
      · refine Exists.intro [] (And.intro ?_ rfl)
        rw [hI.2, hg, if_pos h2', h3]; rfl
      · refine And.intro (fun _ => ?_) fun h => absurd (h.symm.trans h2) (by decide)
        refine Exists.intro [] (And.intro ?_ rfl)
        rw [hI.2, hg, if_pos h2', h3]; rfl
    · have h2' : ¬ l[i].fact = f := by simpa using h2
      refine And.intro (fun h => absurd (h.symm.trans h2) (by decide)) fun _ => ?_
      refine And.intro (by omega) (And.intro (by omega) ?_)
      exact Exists.intro (i + 1) (And.intro (by show l.length - (i + 1) < l.length - i; omega) (And.intro ⟨hi, by rw [hI.2, hg, if_neg h2']⟩ (And.intro rfl rfl)))
  · have hi : i = l.length := by have := ge_of_dec h1; have := hI.1; omega
    refine Exists.intro [] (And.intro ?_ rfl)
    rw [hI.2, hi, List.drop_length]; rfl

end Go.Fw

/- The reference: what an action makes of a fact; ranges. -/
namespace Go.Fw
open Go Go.Proofs
set_option maxRecDepth 10000

def makesF : List Eff → Int → Int → Int
  | [], _, o => o
  | e :: r, f, o => if e.lit.fact = f then (if e.lit.neg then makesF r f (-1) else 1) else makesF r f o
theorem makesF_get {l : List Eff} {i : Nat} {f o : Int} (hi : i < l.length) : makesF (l.drop i) f o = if l[i].lit.fact = f then (if l[i].lit.neg then makesF (l.drop (i + 1)) f (-1) else 1) else makesF (l.drop (i + 1)) f o := by
  rw [List.drop_eq_getElem_cons hi, makesF]
def kp56 : Kp := [(3, ([1, 5, 9, 10, 11], [16]))]
theorem f56_spec (a : Actn) (f : Int) (out : List Fr) : SpecP Try.prog 56 [.act a, .int f] out fun r ro => r = .int (makesF a.effs f 0) ∧ ro = [] := by
  refine spec_body cx_ok kp56 [] (fn := Try.f56) (by kernel_rfl) rfl (by kernel_rfl) rfl (by unfold FnOK; kernel_rfl) fun hok => ?_
  have hme := le_max hok.1.2.2.2.1.1
  refine LoopW.mk (Nat × Int) (fun u => u.1 ≤ a.effs.length ∧ makesF a.effs f 0 = makesF (a.effs.drop u.1) f u.2) (fun u => [(1, .int f), (5, .int u.2), (9, .effs a.en a.effs), (10, .int (a.effs.map tEff).length), (11, .int u.1)])
    (fun _ => ⟨out, [(16, .box [.t (.v (.string a.name)), .int a.cost, .lits a.pn a.pre, .effs a.en a.effs])]⟩) (fun u => a.effs.length - u.1) (0, 0) ⟨Nat.zero_le _, rfl⟩ ⟨rfl, rfl⟩ ?_
  rintro ⟨i, o⟩ ⟨hi0, hI⟩
  simp only at hi0 hI
  refine And.intro (fun h1 => ?_) fun h1 => ?_
  · have hi : i < a.effs.length := lt_of_dec h1
    have hg := makesF_get (f := f) (o := o) hi
    refine And.intro (by omega) (Exists.intro (tEff a.effs[i]) (And.intro (get_map hi) ?_))
    refine And.intro (fun h2 => ?_) fun h2 => ?_
    · have h2' : a.effs[i].lit.fact = f := by simpa using h2
      refine And.intro (fun h3 => ?_) fun h3 => ?_
      · have h3' : a.effs[i].lit.neg = true := by simpa using h3
        refine And.intro (fun _ => ?_) fun h => absurd (h.symm.trans h2) (by decide)
        refine And.intro (by omega) (And.intro (by omega) ?_)
        exact Exists.intro (i + 1, -1) (And.intro (by show a.effs.length - (i + 1) < a.effs.length - i; omega) (And.intro ⟨hi, by rw [hI, hg, if_pos h2', h3']; rfl⟩ (And.intro rfl rfl)))
      · have h3' : a.effs[i].lit.neg = false := by simpa using h3
        refine Exists.intro [] (And.intro ?_ rfl)
        rw [hI, hg, if_pos h2', h3']; rfl
    · have h2' : ¬ a.effs[i].lit.fact = f := by simpa using h2
      refine And.intro (fun h => absurd (h.symm.trans h2) (by decide)) fun _ => ?_
      refine And.intro (by omega) (And.intro (by omega) ?_)
      exact Exists.intro (i + 1, o) (And.intro (by show a.effs.length - (i + 1) < a.effs.length - i; omega) (And.intro ⟨hi, by rw [hI, hg, if_neg h2']⟩ (And.intro rfl rfl)))
  · have hi : i = a.effs.length := by have := ge_of_dec h1; omega
    refine Exists.intro [] (And.intro ?_ rfl)
    rw [hI, hi, List.drop_length]; rfl

theorem f54_spec (n a b : Int) (out : List Fr) : SpecP Try.prog 54 [.int n, .int a, .int b] out fun r ro => r = .bool (decide (a ≤ n) && decide (n ≤ b)) ∧ ro = [] := by
  refine spec_body cx_ok [] [] (fn := Try.f54) (by kernel_rfl) rfl (by kernel_rfl) rfl (by unfold FnOK; kernel_rfl) fun hok => ?_
  refine And.intro (fun h1 => ?_) fun h1 => ?_
  · have h1' : decide (a ≤ n) = true := h1
    refine And.intro (fun h2 => ?_) fun h2 => ?_
    · exact Exists.intro [] (ret_bool (by rw [h1', h2]; rfl) rfl)
    · exact Exists.intro [] (ret_bool (by rw [h1', h2]; rfl) rfl)
  · have h1' : decide (a ≤ n) = false := h1
    exact Exists.intro [] (ret_bool (by rw [h1']; rfl) rfl)

end Go.Fw

/- The reference: the value of a potential in a state; plain tasks. -/
namespace Go.Fw
open Go Go.Proofs
set_option maxRecDepth 10000

def valueF (s : List Int) (c : Int) (w : List Int) : Int := s.foldl (fun acc f => acc + w.getD f.toNat 0) c
theorem value_step {s w : List Int} {c : Int} {i : Nat} (hi : i < s.length) : valueF (s.take (i + 1)) c w = valueF (s.take i) c w + w.getD s[i].toNat 0 := by
  rw [valueF, List.take_add_one, List.getElem?_eq_getElem hi, Option.toList_some, List.foldl_append]; rfl
def Small (l : List Int) : Prop := ∀ x ∈ l, -1125899906842624 ≤ x ∧ x ≤ 1125899906842624
theorem value_in {s w : List Int} {c : Int} (hw : Small w) (hc : -1125899906842624 ≤ c ∧ c ≤ 1125899906842624) : ∀ i, i ≤ s.length → -1125899906842624 * ((i : Int) + 1) ≤ valueF (s.take i) c w ∧ valueF (s.take i) c w ≤ 1125899906842624 * ((i : Int) + 1)
  | 0, _ => by
    simp only [List.take_zero, valueF, List.foldl_nil]
    omega
  | i + 1, h => by
    have ih := value_in (s := s) hw hc i (by omega)
    rw [value_step (by omega)]
    have hg : -1125899906842624 ≤ w.getD (s[i]'(by omega)).toNat 0 ∧ w.getD (s[i]'(by omega)).toNat 0 ≤ 1125899906842624 := by
      rw [List.getD_eq_getElem?_getD]
      rcases Nat.lt_or_ge (s[i]'(by omega)).toNat w.length with hl | hl
      · rw [List.getElem?_eq_getElem hl]; exact hw _ (List.getElem_mem hl)
      · rw [List.getElem?_eq_none hl]; decide
    omega
def kp30 : Kp := [(2, ([1, 2, 9, 10, 11], []))]
theorem f30_spec (n1 n2 : Bool) (s w : List Int) (c : Int) (hs : ∀ x ∈ s, 0 ≤ x ∧ x < w.length) (hl : s.length ≤ 1000) (hw : Small w) (hc : -1125899906842624 ≤ c ∧ c ≤ 1125899906842624) (out : List Fr) :
    SpecP Try.prog 30 [.ints n1 s, .int c, .ints n2 w] out fun r ro => r = .int (valueF s c w) ∧ ro = [] := by
  refine spec_body cx_ok kp30 [] (fn := Try.f30) (by kernel_rfl) rfl (by kernel_rfl) rfl (by unfold FnOK; kernel_rfl) fun hok => ?_
  refine LoopW.mk Nat (fun i => i ≤ s.length) (fun i => [(1, .int (valueF (s.take i) c w)), (2, .ints n2 w), (9, .ints n1 s), (10, .int (s.map tI).length), (11, .int i)]) (fun _ => ⟨out, []⟩) (fun i => s.length - i) 0 (Nat.zero_le _) ⟨rfl, rfl⟩ fun i hI => ?_
  refine And.intro (fun h1 => ?_) fun h1 => ?_
  · have hi : i < s.length := lt_of_dec h1
    have hx := hs _ (List.getElem_mem hi)
    have hlt : s[i].toNat < w.length := by have := hx.1; have := hx.2; omega
    have hv := value_in (s := s) hw hc (i + 1) hi
    rw [value_step hi] at hv
    have hgd : w.getD s[i].toNat 0 = w[s[i].toNat] := by rw [List.getD_eq_getElem?_getD, List.getElem?_eq_getElem hlt]; rfl
    rw [hgd] at hv
    refine And.intro (by omega) (Exists.intro _ (And.intro (get_map hi) ?_))
    refine And.intro hx.1 (Exists.intro (tI w[s[i].toNat]) (And.intro (by rw [List.getElem?_map, List.getElem?_eq_getElem hlt]; rfl) ?_))
    refine And.intro (by omega) (And.intro (by omega) ?_)
    refine And.intro (by omega) (And.intro (by omega) ?_)
    refine Exists.intro (i + 1) (And.intro (by show s.length - (i + 1) < s.length - i; omega) (And.intro hi (And.intro ?_ rfl)))
    rw [value_step hi, hgd]
    rfl
  · have hi : i = s.length := by have := ge_of_dec h1; omega
    refine Exists.intro [] (And.intro ?_ rfl)
    rw [hi, List.take_length]; rfl

end Go.Fw

/- The reference: what a potential is. -/
namespace Go.Fw
open Go Go.Proofs
set_option maxRecDepth 10000

def inW (x : Int) : Bool := decide (-1125899906842624 ≤ x) && decide (x ≤ 1125899906842624)
def isPotB (n : Nat) (den c : Int) (w : List Int) : Bool := (decide (1 ≤ den) && decide (den ≤ 1073741824)) && inW c && (w.length == n) && w.all inW
theorem all_more {l : List Int} {p : Int → Bool} {i : Nat} (hi : i < l.length) (h1 : (l.take i).all p = true) (h2 : p l[i] = true) : (l.take (i + 1)).all p = true := by
  rw [List.take_add_one, List.getElem?_eq_getElem hi, Option.toList_some, List.all_append, h1]; simp [h2]
theorem all_not {l : List Int} {p : Int → Bool} {i : Nat} (hi : i < l.length) (h : p l[i] = false) : l.all p = false := by
  rw [Bool.eq_false_iff]
  intro h2
  have := List.all_eq_true.1 h2 _ (List.getElem_mem hi)
  rw [h] at this; cases this
def kp28 : Kp := [(4, ([27, 28, 29], [32]))]
theorem f28_spec (t : Task) (den c : Int) (n1 : Bool) (w : List Int) (out : List Fr) : SpecP Try.prog 28 [.task t, .int den, .int c, .ints n1 w] out fun r ro => r = .bool (isPotB t.facts.length den c w) ∧ ro = [] := by
  refine spec_body cx_ok kp28 [] (fn := Try.f28) (by kernel_rfl) rfl (by kernel_rfl) rfl (by unfold FnOK; kernel_rfl) fun hok => ?_
  have hmw := le_max hok.2.2.2.1.1
  have no1 : (decide (1 ≤ den) && decide (den ≤ 1073741824)) = false → isPotB t.facts.length den c w = false := fun h => by rw [isPotB, h]; rfl
  have no2 : inW c = false → isPotB t.facts.length den c w = false := fun h => by rw [isPotB, h]; simp
  have no3 : ¬ w.length = t.facts.length → isPotB t.facts.length den c w = false := fun h => by rw [isPotB, show (w.length == t.facts.length) = false by simpa using h]; simp
  have no4 : w.all inW = false → isPotB t.facts.length den c w = false := fun h => by rw [isPotB, h]; simp
  refine SpecP.mono (f54_spec den 1 1073741824 _) ?_
  rintro _ _ ⟨rfl, rfl⟩
  refine And.intro (fun h1 => ?_) fun h1 => ?_
  rotate_left
  · exact Exists.intro [] (ret_bool (no1 h1) rfl)
  refine SpecP.mono (f54_spec c (-1125899906842624) 1125899906842624 _) ?_
  rintro _ _ ⟨rfl, rfl⟩
  refine And.intro (fun h2 => ?_) fun h2 => ?_
  rotate_left
  · exact Exists.intro [] (ret_bool (no2 h2) rfl)
  refine And.intro (fun h3 => ?_) fun h3 => ?_
  · have h3' : ¬ w.length = t.facts.length := by
      intro h
      simp [List.length_map, h] at h3
    exact Exists.intro [] (ret_bool (no3 h3') rfl)
  have h3' : w.length = t.facts.length := by
    have : (w.length : Int) = t.facts.length := by simpa [List.length_map] using h3
    omega
  refine LoopW.mk Nat (fun i => i ≤ w.length ∧ (w.take i).all inW = true) (fun i => [(27, .ints n1 w), (28, .int (w.map tI).length), (29, .int i)]) (fun _ => ⟨out, [(32, .box (cellsTask t))]⟩) (fun i => w.length - i) 0 ⟨Nat.zero_le _, rfl⟩ ⟨rfl, rfl⟩ fun i hI => ?_
  refine And.intro (fun h4 => ?_) fun h4 => ?_
  · have hi : i < w.length := lt_of_dec h4
    refine And.intro (by omega) (Exists.intro _ (And.intro (get_map hi) ?_))
    refine SpecP.mono (f54_spec w[i] (-1125899906842624) 1125899906842624 _) ?_
    rintro _ _ ⟨rfl, rfl⟩
    refine And.intro (fun h5 => ?_) fun h5 => ?_
    · refine And.intro (by omega) (And.intro (by omega) ?_)
      exact Exists.intro (i + 1) (And.intro (by show w.length - (i + 1) < w.length - i; omega) (And.intro ⟨hi, all_more hi hI.2 h5⟩ (And.intro rfl rfl)))
    · exact Exists.intro [] (ret_bool (no4 (all_not hi h5)) rfl)
  · have hi : i = w.length := by have := ge_of_dec h4; have := hI.1; omega
    have h6 := hI.2
    rw [hi, List.take_length] at h6
    exact Exists.intro [] (ret_bool (by rw [isPotB, h1, show inW c = true from h2, h6, h3']; simp) rfl)

end Go.Fw

/- The reference: plain tasks. -/
namespace Go.Fw
open Go Go.Proofs
set_option maxRecDepth 10000

def noWhen (e : Eff) : Bool := e.when_.length == 0
def plainB (t : Task) : Bool := t.acts.all fun a => a.effs.all noWhen
theorem allG_more {α : Type} {l : List α} {p : α → Bool} {i : Nat} (hi : i < l.length) (h1 : (l.take i).all p = true) (h2 : p l[i] = true) : (l.take (i + 1)).all p = true := by
  rw [List.take_add_one, List.getElem?_eq_getElem hi, Option.toList_some, List.all_append, h1]; simp [h2]
theorem allG_not {α : Type} {l : List α} {p : α → Bool} {i : Nat} (hi : i < l.length) (h : p l[i] = false) : l.all p = false := by
  rw [Bool.eq_false_iff]
  intro h2
  have := List.all_eq_true.1 h2 _ (List.getElem_mem hi)
  rw [h] at this; cases this
def kp27 : Kp := [(2, ([8, 9, 10], [8])), (5, ([8, 9, 10, 15, 16, 17], [8]))]
theorem f27_spec (t : Task) (out : List Fr) : SpecP Try.prog 27 [.task t] out fun r ro => r = .bool (plainB t) ∧ ro = [] := by
  refine spec_body cx_ok kp27 [] (fn := Try.f27) (by kernel_rfl) rfl (by kernel_rfl) rfl (by unfold FnOK; kernel_rfl) fun hok => ?_
  have hma := le_max hok.1.2.2.2.1.1
  have hme : ∀ a ∈ t.acts, (a.effs.length : Int) ≤ 9223372036854775807 := fun a ha => by
    have h1 := hok.1.2.2.2.1.2
    have h2 := okEs_iff.1 h1 (tAct a) (List.mem_map_of_mem ha) (.sl a.en 3 (a.effs.map tEff)) (by simp [tAct])
    exact le_max h2.1
  refine LoopW.mk Nat (fun i => i ≤ t.acts.length ∧ (t.acts.take i).all (fun a => a.effs.all noWhen) = true) (fun i => [(8, .t (.sl t.an 4 (t.acts.map tAct))), (9, .int (t.acts.map tAct).length), (10, .int i)]) (fun _ => ⟨out, [(8, .box (cellsTask t))]⟩) (fun i => t.acts.length - i) 0 ⟨Nat.zero_le _, rfl⟩ ⟨rfl, rfl⟩ fun i hI => ?_
  refine And.intro (fun h1 => ?_) fun h1 => ?_
  · have hi : i < t.acts.length := lt_of_dec h1
    have he := hme _ (List.getElem_mem hi)
    refine And.intro (by omega) (Exists.intro _ (And.intro (get_map hi) ?_))
    refine LoopW.mk Nat (fun j => j ≤ t.acts[i].effs.length ∧ (t.acts[i].effs.take j).all noWhen = true) (fun j => [(8, .t (.sl t.an 4 (t.acts.map tAct))), (9, .int (t.acts.map tAct).length), (10, .int i), (15, .effs t.acts[i].en t.acts[i].effs), (16, .int (t.acts[i].effs.map tEff).length), (17, .int j)])
      (fun _ => ⟨out, [(8, .box (cellsTask t))]⟩) (fun j => t.acts[i].effs.length - j) 0 ⟨Nat.zero_le _, rfl⟩ ⟨rfl, rfl⟩ fun j hJ => ?_
    refine And.intro (fun h2 => ?_) fun h2 => ?_
    · have hj : j < t.acts[i].effs.length := lt_of_dec h2
      refine And.intro (by omega) (Exists.intro _ (And.intro (get_map hj) ?_))
      refine And.intro (fun h3 => ?_) fun h3 => ?_
      · have h3' : noWhen t.acts[i].effs[j] = false := by
          have h3 := of_decide_eq_true h3
          rw [List.length_map] at h3
          simp only [noWhen, beq_eq_false_iff_ne]
          omega
        exact Exists.intro [] (ret_bool (allG_not (p := fun a : Actn => a.effs.all noWhen) hi (allG_not hj h3')) rfl)
      · have h3' : noWhen t.acts[i].effs[j] = true := by
          have h3 := of_decide_eq_false h3
          rw [List.length_map] at h3
          simp only [noWhen, beq_iff_eq]
          omega
        refine And.intro (by omega) (And.intro (by omega) ?_)
        exact Exists.intro (j + 1) (And.intro (by show t.acts[i].effs.length - (j + 1) < t.acts[i].effs.length - j; omega) (And.intro ⟨hj, allG_more hj hJ.2 h3'⟩ (And.intro rfl rfl)))
    · have hj : j = t.acts[i].effs.length := by have := ge_of_dec h2; have := hJ.1; omega
      have h6 := hJ.2
      rw [hj, List.take_length] at h6
      refine And.intro (by omega) (And.intro (by omega) ?_)
      exact Exists.intro (i + 1) (And.intro (by show t.acts.length - (i + 1) < t.acts.length - i; omega) (And.intro ⟨hi, allG_more (p := fun a : Actn => a.effs.all noWhen) hi hI.2 h6⟩ (And.intro rfl rfl)))
  · have hi : i = t.acts.length := by have := ge_of_dec h1; have := hI.1; omega
    have h6 := hI.2
    rw [hi, List.take_length] at h6
    exact Exists.intro [] (ret_bool h6 rfl)

end Go.Fw

/- Plain tasks; what a potential is. -/
namespace Go.Fw
open Go Go.Proofs
set_option maxRecDepth 10000

abbrev LV.acts (nl : Bool) (l : List Actn) : LV := .t (.sl nl 4 (l.map tAct))
def hasW (e : Eff) : Bool := !noWhen e
def hasWA (a : Actn) : Bool := a.effs.any hasW
theorem f70_spec (e : Eff) (out : List Fr) : SpecP Try.prog 70 [.eff e] out fun r ro => r = .bool (hasW e) ∧ ro = [] := by
  refine spec_body cx_ok [] [] (fn := Try.f70) (by kernel_rfl) rfl (by kernel_rfl) rfl (by unfold FnOK; kernel_rfl) fun hok => ?_
  refine And.intro (fun h => ?_) fun h => ?_
  · have h := of_decide_eq_true h
    rw [List.length_map] at h
    exact Exists.intro [] (ret_bool (by simp [hasW, noWhen]; intro h2; rw [h2] at h; simp at h) rfl)
  · have h := of_decide_eq_false h
    rw [List.length_map] at h
    have h2 : e.when_.length = 0 := by omega
    exact Exists.intro [] (ret_bool (by simp [hasW, noWhen, List.eq_nil_of_length_eq_zero h2]) rfl)
def kq99 : Kp := [(2, ([0, 1, 7, 8], []))]
theorem f99_fn (n1 : Bool) (l : List Eff) (out : List Fr) :
    SpecP Try.prog 99 [.effs n1 l, .fn 70 []] out fun r ro => ∃ j : Int, r = .int j ∧ decide (0 ≤ j) = l.any hasW ∧ ro = [] := by
  refine spec_body cx_ok kq99 [] (fn := Try.f99) (by kernel_rfl) rfl (by kernel_rfl) rfl (by unfold FnOK; kernel_rfl) fun hok => ?_
  have hmx := le_max hok.1.1
  refine LoopW.mk Nat (fun i => i ≤ l.length ∧ (l.take i).any hasW = false) (fun i => [(0, .effs n1 l), (1, .fn 70 []), (7, .int (l.map tEff).length), (8, .int i)]) (fun _ => ⟨out, []⟩) (fun i => l.length - i) 0 ⟨Nat.zero_le _, rfl⟩ ⟨rfl, rfl⟩ fun i hI => ?_
  refine And.intro (fun h1 => ?_) fun h1 => ?_
  · have hi := lt_of_dec h1
    refine And.intro (by omega) (Exists.intro _ (And.intro (get_map hi) ?_))
    refine SpecP.mono (f70_spec _ _) ?_
    rintro _ _ ⟨rfl, rfl⟩
    refine And.intro (fun h2 => ?_) fun h2 => ?_
    · exact Exists.intro [] ⟨_, rfl, by rw [any_true (p := hasW) hi h2]; simp, rfl⟩
    · refine And.intro (by omega) (And.intro (by omega) ?_)
      exact Exists.intro (i + 1) (And.intro (by show l.length - (i + 1) < l.length - i; omega) (And.intro ⟨hi, any_step (p := hasW) hi hI.2 h2⟩ (And.intro rfl rfl)))
  · exact Exists.intro [] ⟨_, rfl, by rw [any_end (ge_of_dec h1) hI.2]; rfl, rfl⟩
theorem f69_fn (n1 : Bool) (l : List Eff) (out : List Fr) :
    SpecP Try.prog 69 [.effs n1 l, .fn 70 []] out fun r ro => r = .bool (l.any hasW) ∧ ro = [] := by
  refine spec_body cx_ok [] [] (fn := Try.f69) (by kernel_rfl) rfl (by kernel_rfl) rfl (by unfold FnOK; kernel_rfl) fun hok => ?_
  refine SpecP.mono (f99_fn n1 l _) ?_
  rintro _ _ ⟨j, rfl, hj, rfl⟩
  refine And.intro (fun h => ?_) fun h => ?_
  · exact Exists.intro [] (ret_bool (by rw [← hj]; simpa using h) rfl)
  · exact Exists.intro [] (ret_bool (by rw [← hj]; simpa using h) rfl)
theorem f68_spec (a : Actn) (out : List Fr) : SpecP Try.prog 68 [.act a] out fun r ro => r = .bool (hasWA a) ∧ ro = [] := by
  refine spec_body cx_ok [] [] (fn := Try.f68) (by kernel_rfl) rfl (by kernel_rfl) rfl (by unfold FnOK; kernel_rfl) fun hok => ?_
  refine SpecP.mono (f69_fn a.en a.effs _) ?_
  rintro _ _ ⟨rfl, rfl⟩
  refine And.intro (fun h => ?_) fun h => ?_
  · exact Exists.intro [] (ret_bool h rfl)
  · exact Exists.intro [] (ret_bool h rfl)
def kq98 : Kp := [(2, ([0, 1, 7, 8], []))]
theorem f98_fn (n1 : Bool) (l : List Actn) (out : List Fr) :
    SpecP Try.prog 98 [.acts n1 l, .fn 68 []] out fun r ro => ∃ j : Int, r = .int j ∧ decide (0 ≤ j) = l.any hasWA ∧ ro = [] := by
  refine spec_body cx_ok kq98 [] (fn := Try.f98) (by kernel_rfl) rfl (by kernel_rfl) rfl (by unfold FnOK; kernel_rfl) fun hok => ?_
  have hmx := le_max hok.1.1
  refine LoopW.mk Nat (fun i => i ≤ l.length ∧ (l.take i).any hasWA = false) (fun i => [(0, .acts n1 l), (1, .fn 68 []), (7, .int (l.map tAct).length), (8, .int i)]) (fun _ => ⟨out, []⟩) (fun i => l.length - i) 0 ⟨Nat.zero_le _, rfl⟩ ⟨rfl, rfl⟩ fun i hI => ?_
  refine And.intro (fun h1 => ?_) fun h1 => ?_
  · have hi := lt_of_dec h1
    refine And.intro (by omega) (Exists.intro _ (And.intro (get_map hi) ?_))
    refine SpecP.mono (f68_spec _ _) ?_
    rintro _ _ ⟨rfl, rfl⟩
    refine And.intro (fun h2 => ?_) fun h2 => ?_
    · exact Exists.intro [] ⟨_, rfl, by rw [any_true (p := hasWA) hi h2]; simp, rfl⟩
    · refine And.intro (by omega) (And.intro (by omega) ?_)
      exact Exists.intro (i + 1) (And.intro (by show l.length - (i + 1) < l.length - i; omega) (And.intro ⟨hi, any_step (p := hasWA) hi hI.2 h2⟩ (And.intro rfl rfl)))
  · exact Exists.intro [] ⟨_, rfl, by rw [any_end (ge_of_dec h1) hI.2]; rfl, rfl⟩
theorem f67_fn (n1 : Bool) (l : List Actn) (out : List Fr) :
    SpecP Try.prog 67 [.acts n1 l, .fn 68 []] out fun r ro => r = .bool (l.any hasWA) ∧ ro = [] := by
  refine spec_body cx_ok [] [] (fn := Try.f67) (by kernel_rfl) rfl (by kernel_rfl) rfl (by unfold FnOK; kernel_rfl) fun hok => ?_
  refine SpecP.mono (f98_fn n1 l _) ?_
  rintro _ _ ⟨j, rfl, hj, rfl⟩
  refine And.intro (fun h => ?_) fun h => ?_
  · exact Exists.intro [] (ret_bool (by rw [← hj]; simpa using h) rfl)
  · exact Exists.intro [] (ret_bool (by rw [← hj]; simpa using h) rfl)
theorem f38_spec (t : Task) (out : List Fr) : SpecP Try.prog 38 [.task t] out fun r ro => r = .bool (plainB t) ∧ ro = [] := by
  refine spec_body cx_ok [] [] (fn := Try.f38) (by kernel_rfl) rfl (by kernel_rfl) rfl (by unfold FnOK; kernel_rfl) fun hok => ?_
  refine SpecP.mono (f67_fn t.an t.acts _) ?_
  rintro _ _ ⟨rfl, rfl⟩
  have key : plainB t = !t.acts.any hasWA := by
    rw [plainB, List.not_any_eq_all_not]
    congr 1; funext a
    rw [hasWA, List.not_any_eq_all_not]; simp [hasW]
  refine And.intro (fun h => ?_) fun h => ?_
  · exact Exists.intro [] (ret_bool (by rw [key, h]) rfl)
  · exact Exists.intro [] (ret_bool (by rw [key, h]) rfl)
theorem f23_spec (t : Task) (out : List Fr) : SpecP Try.prog 23 [.task t] out fun r ro => (r = match isB t with
    | true => .tup [.bool (plainB t), .int 0]
    | false => .tup [.bool false, .int 10]) ∧ ro = [] := by
  refine spec_body cx_ok [] [] (fn := Try.f23) (by kernel_rfl) rfl (by kernel_rfl) rfl (by unfold FnOK; kernel_rfl) fun hok => ?_
  refine SpecP.mono (f49_spec t _) ?_
  rintro _ _ ⟨rfl, rfl⟩
  refine And.intro (fun h => ?_) fun h => ?_
  · refine SpecP.mono (f38_spec t _) ?_
    rintro _ _ ⟨rfl, rfl⟩
    refine And.intro (fun h2 => ?_) fun h2 => ?_
    · refine Exists.intro [] ⟨?_, rfl⟩; rw [h, h2]; rfl
    · refine Exists.intro [] ⟨?_, rfl⟩; rw [h, h2]; rfl
  · refine Exists.intro [] ⟨?_, rfl⟩; rw [h]; rfl
def inW' (x : Int) : Bool := !inW x
theorem f85_spec (x : Int) (out : List Fr) : SpecP Try.prog 85 [.int x] out fun r ro => r = .bool (inW' x) ∧ ro = [] := by
  refine spec_body cx_ok [] [] (fn := Try.f85) (by kernel_rfl) rfl (by kernel_rfl) rfl (by unfold FnOK; kernel_rfl) fun hok => ?_
  refine SpecP.mono (f83_spec x _) ?_
  rintro _ _ ⟨rfl, rfl⟩
  refine And.intro (fun h => ?_) fun h => ?_
  · exact Exists.intro [] (ret_bool (by rw [inW', inW, h]) rfl)
  · exact Exists.intro [] (ret_bool (by rw [inW', inW, h]) rfl)

def kq103 : Kp := [(2, ([0, 1, 7, 8], []))]
theorem f103_fn (n1 : Bool) (l : List Int) (out : List Fr) :
    SpecP Try.prog 103 [.ints n1 l, .fn 85 []] out fun r ro => ∃ j : Int, r = .int j ∧ decide (0 ≤ j) = l.any inW' ∧ ro = [] := by
  refine spec_body cx_ok kq103 [] (fn := Try.f103) (by kernel_rfl) rfl (by kernel_rfl) rfl (by unfold FnOK; kernel_rfl) fun hok => ?_
  have hmx := le_max hok.1.1
  refine LoopW.mk Nat (fun i => i ≤ l.length ∧ (l.take i).any inW' = false) (fun i => [(0, .ints n1 l), (1, .fn 85 []), (7, .int (l.map tI).length), (8, .int i)]) (fun _ => ⟨out, []⟩) (fun i => l.length - i) 0 ⟨Nat.zero_le _, rfl⟩ ⟨rfl, rfl⟩ fun i hI => ?_
  refine And.intro (fun h1 => ?_) fun h1 => ?_
  · have hi := lt_of_dec h1
    refine And.intro (by omega) (Exists.intro _ (And.intro (get_map hi) ?_))
    refine SpecP.mono (f85_spec _ _) ?_
    rintro _ _ ⟨rfl, rfl⟩
    refine And.intro (fun h2 => ?_) fun h2 => ?_
    · exact Exists.intro [] ⟨_, rfl, by rw [any_true (p := inW') hi h2]; simp, rfl⟩
    · refine And.intro (by omega) (And.intro (by omega) ?_)
      exact Exists.intro (i + 1) (And.intro (by show l.length - (i + 1) < l.length - i; omega) (And.intro ⟨hi, any_step (p := inW') hi hI.2 h2⟩ (And.intro rfl rfl)))
  · exact Exists.intro [] ⟨_, rfl, by rw [any_end (ge_of_dec h1) hI.2]; rfl, rfl⟩
theorem f84_fn (n1 : Bool) (l : List Int) (out : List Fr) :
    SpecP Try.prog 84 [.ints n1 l, .fn 85 []] out fun r ro => r = .bool (l.any inW') ∧ ro = [] := by
  refine spec_body cx_ok [] [] (fn := Try.f84) (by kernel_rfl) rfl (by kernel_rfl) rfl (by unfold FnOK; kernel_rfl) fun hok => ?_
  refine SpecP.mono (f103_fn n1 l _) ?_
  rintro _ _ ⟨j, rfl, hj, rfl⟩
  refine And.intro (fun h => ?_) fun h => ?_
  · exact Exists.intro [] (ret_bool (by rw [← hj]; simpa using h) rfl)
  · exact Exists.intro [] (ret_bool (by rw [← hj]; simpa using h) rfl)

end Go.Fw

/- Potentials: their value, the errors of what is given; a fraction. -/
namespace Go.Fw
open Go Go.Proofs
set_option maxRecDepth 10000

abbrev LV.pot (den c : Int) (n1 : Bool) (w : List Int) : LV := .agg [.t (.v (.int .i64 den)), .t (.v (.int .i64 c)), .t (.sl n1 1 (w.map tI))]
def cellsPot (den c : Int) (n1 : Bool) (w : List Int) : List LV := [.t (.v (.int .i64 den)), .t (.v (.int .i64 c)), .t (.sl n1 1 (w.map tI))]
def kp45 : Kp := [(3, ([3, 5, 10, 11, 12], [24]))]
theorem f45_spec (n1 n2 : Bool) (s w : List Int) (den c : Int) (hs : ∀ x ∈ s, 0 ≤ x ∧ x < w.length) (hl : s.length ≤ 1000) (hw : Small w) (hc : -1125899906842624 ≤ c ∧ c ≤ 1125899906842624) (out : List Fr) :
    SpecP Try.prog 45 [.ints n1 s, .pot den c n2 w] out fun r ro => r = .int (valueF s c w) ∧ ro = [] := by
  refine spec_body cx_ok kp45 [] (fn := Try.f45) (by kernel_rfl) rfl (by kernel_rfl) rfl (by unfold FnOK; kernel_rfl) fun hok => ?_
  refine LoopW.mk Nat (fun i => i ≤ s.length) (fun i => [(3, .ptr (.cur 24) 0), (5, .int (valueF (s.take i) c w)), (10, .ints n1 s), (11, .int (s.map tI).length), (12, .int i)]) (fun _ => ⟨out, [(24, .box (cellsPot den c n2 w))]⟩) (fun i => s.length - i) 0 (Nat.zero_le _) ⟨rfl, rfl⟩ fun i hI => ?_
  refine And.intro (fun h1 => ?_) fun h1 => ?_
  · have hi : i < s.length := lt_of_dec h1
    have hx := hs _ (List.getElem_mem hi)
    have hlt : s[i].toNat < w.length := by have := hx.1; have := hx.2; omega
    have hv := value_in (s := s) hw hc (i + 1) hi
    rw [value_step hi] at hv
    have hgd : w.getD s[i].toNat 0 = w[s[i].toNat] := by rw [List.getD_eq_getElem?_getD, List.getElem?_eq_getElem hlt]; rfl
    rw [hgd] at hv
    refine And.intro (by omega) (Exists.intro _ (And.intro (get_map hi) ?_))
    refine And.intro hx.1 (Exists.intro (tI w[s[i].toNat]) (And.intro (by rw [List.getElem?_map, List.getElem?_eq_getElem hlt]; rfl) ?_))
    refine And.intro (by omega) (And.intro (by omega) ?_)
    refine And.intro (by omega) (And.intro (by omega) ?_)
    refine Exists.intro (i + 1) (And.intro (by show s.length - (i + 1) < s.length - i; omega) (And.intro hi (And.intro ?_ rfl)))
    rw [value_step hi, hgd]
    rfl
  · have hi : i = s.length := by have := ge_of_dec h1; omega
    refine Exists.intro [] (And.intro ?_ rfl)
    rw [hi, List.take_length]; rfl
theorem f43_spec (t : Task) (den c : Int) (n1 : Bool) (w : List Int) (out : List Fr) : SpecP Try.prog 43 [.task t, .pot den c n1 w] out fun r ro => r = .bool (isPotB t.facts.length den c w) ∧ ro = [] := by
  refine spec_body cx_ok [] [] (fn := Try.f43) (by kernel_rfl) rfl (by kernel_rfl) rfl (by unfold FnOK; kernel_rfl) fun hok => ?_
  have e2 : ∀ n : Nat, inW c = (decide (-1125899906842624 ≤ c) && decide (c ≤ 1125899906842624)) := fun _ => rfl
  refine And.intro (fun h1 => ?_) fun h1 => ?_
  rotate_left
  · refine Exists.intro [] (ret_bool ?_ rfl)
    rw [isPotB]; simp only [decide_eq_false_iff_not] at h1; simp [h1]
  refine And.intro (fun h2 => ?_) fun h2 => ?_
  rotate_left
  · refine Exists.intro [] (ret_bool ?_ rfl)
    rw [isPotB]; simp only [decide_eq_false_iff_not] at h2; simp [h2]
  refine SpecP.mono (f83_spec c _) ?_
  rintro _ _ ⟨rfl, rfl⟩
  refine And.intro (fun h3 => ?_) fun h3 => ?_
  rotate_left
  · refine Exists.intro [] (ret_bool ?_ rfl)
    rw [isPotB, e2 0, h3]; simp
  refine And.intro (fun h4 => ?_) fun h4 => ?_
  rotate_left
  · refine Exists.intro [] (ret_bool ?_ rfl)
    have h4' : ¬ w.length = t.facts.length := by intro h; simp [List.length_map, h] at h4
    rw [isPotB, show (w.length == t.facts.length) = false by simpa using h4']; simp
  have h4' : w.length = t.facts.length := by
    have : (w.length : Int) = t.facts.length := by simpa [List.length_map] using h4
    omega
  refine SpecP.mono (f84_fn n1 w _) ?_
  rintro _ _ ⟨rfl, rfl⟩
  have key : w.any inW' = !w.all inW := by
    rw [List.not_all_eq_any_not]; rfl
  have h1 := of_decide_eq_true h1
  have h2 := of_decide_eq_true h2
  refine And.intro (fun h5 => ?_) fun h5 => ?_
  · refine Exists.intro [] (ret_bool ?_ rfl)
    rw [key] at h5
    rw [isPotB, show w.all inW = false by simpa using h5]; simp
  · refine Exists.intro [] (ret_bool ?_ rfl)
    rw [key] at h5
    rw [isPotB, show w.all inW = true by simpa using h5, e2 0, h3, h4']; simp [h1, h2]
/-- The error of a task and a potential. -/
def asksI (t : Task) (den c : Int) (w : List Int) : Int := match isB t with
  | false => 10
  | true => match plainB t && isPotB t.facts.length den c w with
    | true => 0
    | false => 1
theorem f60_spec (t : Task) (den c : Int) (n1 : Bool) (w : List Int) (out : List Fr) : SpecP Try.prog 60 [.task t, .pot den c n1 w] out fun r ro => r = .int (asksI t den c w) ∧ ro = [] := by
  refine spec_body cx_ok [] [] (fn := Try.f60) (by kernel_rfl) rfl (by kernel_rfl) rfl (by unfold FnOK; kernel_rfl) fun hok => ?_
  refine SpecP.mono (f49_spec t _) ?_
  rintro _ _ ⟨rfl, rfl⟩
  refine And.intro (fun h1 => ?_) fun h1 => ?_
  rotate_left
  · refine Exists.intro [] (And.intro ?_ rfl); rw [asksI, h1]; rfl
  refine SpecP.mono (f38_spec t _) ?_
  rintro _ _ ⟨rfl, rfl⟩
  refine And.intro (fun h2 => ?_) fun h2 => ?_
  rotate_left
  · refine Exists.intro [] (And.intro ?_ rfl); rw [asksI, h1, h2]; rfl
  refine SpecP.mono (f43_spec t den c n1 w _) ?_
  rintro _ _ ⟨rfl, rfl⟩
  refine And.intro (fun h3 => ?_) fun h3 => ?_
  · refine Exists.intro [] (And.intro ?_ rfl); rw [asksI, h1, h2, h3]; rfl
  · refine Exists.intro [] (And.intro ?_ rfl); rw [asksI, h1, h2, h3]; rfl
def givenI (t : Task) (s : List Int) (den c : Int) (w : List Int) : Int := if fineI t s = 0 then asksI t den c w else fineI t s
theorem f58_spec (t : Task) (n2 : Bool) (s : List Int) (den c : Int) (n1 : Bool) (w : List Int) (out : List Fr) : SpecP Try.prog 58 [.task t, .ints n2 s, .pot den c n1 w] out fun r ro => r = .int (givenI t s den c w) ∧ ro = [] := by
  refine spec_body cx_ok [] [] (fn := Try.f58) (by kernel_rfl) rfl (by kernel_rfl) rfl (by unfold FnOK; kernel_rfl) fun hok => ?_
  refine SpecP.mono (f37_spec t n2 s _) ?_
  rintro _ _ ⟨rfl, rfl⟩
  refine And.intro (fun h1 => ?_) fun h1 => ?_
  · have h1' : ¬ fineI t s = 0 := by simpa using h1
    refine Exists.intro [] (And.intro ?_ rfl); rw [givenI, if_neg h1']; rfl
  · have h1' : fineI t s = 0 := by simpa using h1
    refine SpecP.mono (f60_spec t den c n1 w _) ?_
    rintro _ _ ⟨rfl, rfl⟩
    refine Exists.intro [] (And.intro ?_ rfl); rw [givenI, if_pos h1']; rfl

/-! ### The law's own -/
def checkI (t : Task) (s : List Int) : Int := match isB t with
  | false => 10
  | true => match risingB s t.facts.length with
    | true => 0
    | false => 20
theorem f12_spec (t : Task) (n1 : Bool) (s : List Int) (out : List Fr) : SpecP Try.prog 12 [.task t, .ints n1 s] out fun r ro => r = .int (checkI t s) ∧ ro = [] := by
  refine spec_body cx_ok [] [] (fn := Try.f12) (by kernel_rfl) rfl (by kernel_rfl) rfl (by unfold FnOK; kernel_rfl) fun hok => ?_
  refine SpecP.mono (f18_spec t _) ?_
  rintro _ _ ⟨rfl, rfl⟩
  refine And.intro (fun h1 => ?_) fun h1 => ?_
  rotate_left
  · refine Exists.intro [] (And.intro ?_ rfl); rw [checkI, h1]; rfl
  refine SpecP.mono (f42_spec t n1 s _) ?_
  rintro _ _ ⟨rfl, rfl⟩
  refine And.intro (fun h2 => ?_) fun h2 => ?_
  · refine Exists.intro [] (And.intro ?_ rfl); rw [checkI, h1, h2]; rfl
  · refine Exists.intro [] (And.intro ?_ rfl); rw [checkI, h1, h2]; rfl
theorem f11_spec (t : Task) (e : Int) (out : List Fr) : SpecP Try.prog 11 [.task t, .int e] out fun r ro => (r = .int (if e = 0 ∧ plainB t = false then 1 else e)) ∧ ro = [] := by
  refine spec_body cx_ok [] [] (fn := Try.f11) (by kernel_rfl) rfl (by kernel_rfl) rfl (by unfold FnOK; kernel_rfl) fun hok => ?_
  refine And.intro (fun h1 => ?_) fun h1 => ?_
  · have h1' : e = 0 := by simpa using h1
    refine SpecP.mono (f27_spec t _) ?_
    rintro _ _ ⟨rfl, rfl⟩
    refine And.intro (fun h2 => ?_) fun h2 => ?_
    · refine Exists.intro [] (And.intro ?_ rfl); rw [if_neg (fun h => by rw [h2] at h; exact absurd h.2 (by decide))]; rfl
    · refine Exists.intro [] (And.intro ?_ rfl); rw [if_pos ⟨h1', h2⟩]; rfl
  · have h1' : ¬ e = 0 := by simpa using h1
    refine Exists.intro [] (And.intro ?_ rfl); rw [if_neg fun h => h1' h.1]; rfl

end Go.Fw

/- Sums over facts: the greatest sum of the weights where the goal holds; the most by which the weights can fall. -/
namespace Go.Fw
open Go Go.Proofs
set_option maxRecDepth 10000

/-! ### Sums -/
def sumZ (f : Nat → Int) : Nat → Int
  | 0 => 0
  | n + 1 => sumZ f n + f n
theorem sumZ_congr {f g : Nat → Int} : ∀ {n : Nat}, (∀ i, i < n → f i = g i) → sumZ f n = sumZ g n
  | 0, _ => rfl
  | n + 1, h => by rw [sumZ, sumZ, sumZ_congr (fun i hi => h i (by omega)), h n (by omega)]
theorem sumZ_in {f : Nat → Int} {b : Int} : ∀ {n : Nat}, (∀ i, i < n → -b ≤ f i ∧ f i ≤ b) → -(b * n) ≤ sumZ f n ∧ sumZ f n ≤ b * n
  | 0, _ => by simp [sumZ]
  | n + 1, h => by
    have ih := sumZ_in (f := f) (b := b) (n := n) fun i hi => h i (by omega)
    have h1 := h n (by omega)
    rw [sumZ]
    have e : b * ((n + 1 : Nat) : Int) = b * n + b := by rw [Int.natCast_succ, Int.mul_add, Int.mul_one]
    rw [e]; omega
def max0 (w : Int) : Int := if w > 0 then w else 0
/-- What a fact adds where the goal holds. -/
def goalI (s w : Int) : Int := if s = 1 then w else if s = 0 then max0 w else 0
/-- What a fact takes off. -/
def dropI (c w : Int) : Int := if c = 1 then -w else if c = 2 then max0 (-w) else if c = 3 then w else if c = 4 then max0 w else 0
theorem goalI_in {s w : Int} (h : -1125899906842624 ≤ w ∧ w ≤ 1125899906842624) : -1125899906842624 ≤ goalI s w ∧ goalI s w ≤ 1125899906842624 := by
  unfold goalI max0; split <;> (try split) <;> (try split) <;> omega
theorem dropI_in {s w : Int} (h : -1125899906842624 ≤ w ∧ w ≤ 1125899906842624) : -1125899906842624 ≤ dropI s w ∧ dropI s w ≤ 1125899906842624 := by
  unfold dropI max0; (repeat' split) <;> omega
def wAt (l : List Int) (i : Nat) : Int := l.getD i 0
theorem wAt_eq {l : List Int} {i : Nat} (h : i < l.length) : wAt l i = l[i] := by rw [wAt, List.getD_eq_getElem?_getD, List.getElem?_eq_getElem h]; rfl
theorem wAt_in {w : List Int} (hw : Small w) (i : Nat) : -1125899906842624 ≤ wAt w i ∧ wAt w i ≤ 1125899906842624 := by
  rw [wAt, List.getD_eq_getElem?_getD]
  rcases Nat.lt_or_ge i w.length with hl | hl
  · rw [List.getElem?_eq_getElem hl]; exact hw _ (List.getElem_mem hl)
  · rw [List.getElem?_eq_none hl]; decide
def goalS (n : Nat) (g : List Lit) (w : List Int) : Int := sumZ (fun f => goalI (wAt (signsL n g) f) (wAt w f)) n
def dropS (n : Nat) (a : Actn) (w : List Int) : Int := sumZ (fun f => dropI (wAt (changesL n a) f) (wAt w f)) n
theorem changesL_len (n : Nat) (a : Actn) : (changesL n a).length = n := by rw [changesL, List.length_zipWith, madeL_len, signsL_len, Nat.min_self]

def kp86 : Kp := [(3, ([1, 5, 11, 12, 13], [16, 88]))]
theorem f86_spec (t : Task) (n1 : Bool) (w : List Int) (hN : t.facts.length ≤ 1000) (hw : Small w) (hl : w.length = t.facts.length) (hg : ∀ x ∈ t.goal, litIn t.facts.length x) (out : List Fr) :
    SpecP Try.prog 86 [.task t, .ints n1 w] out fun r ro => r = .int (goalS t.facts.length t.goal w) ∧ ro = [] := by
  refine spec_body cx_ok kp86 [] (fn := Try.f86) (by kernel_rfl) rfl (by kernel_rfl) rfl (by unfold FnOK; kernel_rfl) fun hok => ?_
  refine SpecP.mono (f73_spec t t.gn t.goal (by omega) hg _) ?_
  rintro _ _ ⟨rfl, rfl⟩
  have hSl := signsL_len t.facts.length t.goal
  have hS : ∀ i, sumZ (fun f => goalI (wAt (signsL t.facts.length t.goal) f) (wAt w f)) (i + 1) = sumZ (fun f => goalI (wAt (signsL t.facts.length t.goal) f) (wAt w f)) i + goalI (wAt (signsL t.facts.length t.goal) i) (wAt w i) := fun i => rfl
  have hB : ∀ i, i ≤ 1000 → -1125899906842624000 ≤ sumZ (fun f => goalI (wAt (signsL t.facts.length t.goal) f) (wAt w f)) i ∧ sumZ (fun f => goalI (wAt (signsL t.facts.length t.goal) f) (wAt w f)) i ≤ 1125899906842624000 := fun i hi => by
    have := sumZ_in (f := fun f => goalI (wAt (signsL t.facts.length t.goal) f) (wAt w f)) (b := 1125899906842624) (n := i) fun f _ => goalI_in (wAt_in hw f)
    omega
  rw [goalS]
  generalize signsL t.facts.length t.goal = S at hSl hS hB ⊢
  generalize hG : (fun n => sumZ (fun f => goalI (wAt S f) (wAt w f)) n) = G
  have hG' : ∀ i, sumZ (fun f => goalI (wAt S f) (wAt w f)) i = G i := fun i => congrFun hG i
  have hG0 : G 0 = 0 := by rw [← hG]; rfl
  simp only [hG'] at hS hB ⊢
  clear hG hG'
  refine LoopW.mk Nat (fun i => i ≤ S.length) (fun i => [(1, .ints n1 w), (5, .int (G i)), (11, .ints false S), (12, .int (S.map tI).length), (13, .int i)]) (fun _ => ⟨out, [(16, .box (cellsTask t))]⟩) (fun i => S.length - i) 0 (Nat.zero_le _) ⟨by rw [hG0]; rfl, rfl⟩ fun i hI => ?_
  refine And.intro (fun h1 => ?_) fun h1 => ?_
  · have hi : i < S.length := lt_of_dec h1
    have hiw : i < w.length := by omega
    have hs := hS i
    have hb0 := hB i (by omega)
    have hb1 := hB (i + 1) (by omega)
    have hwi := wAt_in hw i
    rw [wAt_eq hi] at hs
    refine And.intro (by omega) (Exists.intro _ (And.intro (get_map hi) ?_))
    have hgw : (w.map tI)[((i : Nat) : Int).toNat]? = some (tI (wAt w i)) := by rw [Int.toNat_natCast, List.getElem?_map, List.getElem?_eq_getElem hiw, wAt_eq hiw]; rfl
    generalize wAt w i = x at hs hgw hwi
    generalize S[i] = q at hs
    have fin : G (i + 1) = G (i + 1) := rfl
    refine And.intro (fun h2 => ?_) fun h2 => ?_
    · have h2' : q = 1 := by simpa using h2
      rw [goalI, if_pos h2'] at hs
      refine And.intro (by omega) (Exists.intro _ (And.intro hgw ?_))
      refine And.intro (by omega) (And.intro (by omega) ?_)
      refine And.intro (by omega) (And.intro (by omega) ?_)
      refine Exists.intro (i + 1) (And.intro (by show S.length - (i + 1) < S.length - i; omega) (And.intro hi (And.intro ?_ rfl)))
      rw [hs]; rfl
    · have h2' : ¬ q = 1 := by simpa using h2
      rw [goalI, if_neg h2'] at hs
      refine And.intro (fun h3 => ?_) fun h3 => ?_
      · have h3' : q = 0 := by simpa using h3
        rw [if_pos h3'] at hs
        refine And.intro (by omega) (Exists.intro _ (And.intro hgw ?_))
        have hm : (if x > 0 then x else (0 : Int)) = max0 x := rfl
        refine And.intro (by show (-9223372036854775808 : Int) ≤ G i + (if x > 0 then x else 0); rw [hm]; omega) (And.intro (by show G i + (if x > 0 then x else 0) ≤ (9223372036854775807 : Int); rw [hm]; omega) ?_)
        refine And.intro (by omega) (And.intro (by omega) ?_)
        refine Exists.intro (i + 1) (And.intro (by show S.length - (i + 1) < S.length - i; omega) (And.intro hi (And.intro ?_ rfl)))
        rw [hs]; rfl
      · have h3' : ¬ q = 0 := by simpa using h3
        rw [if_neg h3'] at hs
        refine And.intro (by omega) (And.intro (by omega) ?_)
        refine Exists.intro (i + 1) (And.intro (by show S.length - (i + 1) < S.length - i; omega) (And.intro hi (And.intro ?_ rfl)))
        rw [hs, Int.add_zero]; rfl
  · have hi : i = t.facts.length := by have := ge_of_dec h1; omega
    refine Exists.intro [] (And.intro ?_ rfl)
    rw [← hi]; rfl
end Go.Fw

/- The most by which the weights can fall; whether a potential is right. -/
namespace Go.Fw
open Go Go.Proofs
set_option maxRecDepth 10000

def kp87 : Kp := [(3, ([2, 7, 13, 14, 15], [24, 32, 104]))]
theorem f87_spec (t : Task) (a : Actn) (n1 : Bool) (w : List Int) (hN : t.facts.length ≤ 1000) (hw : Small w) (hl : w.length = t.facts.length) (hp : ∀ x ∈ a.pre, litIn t.facts.length x) (he : ∀ e ∈ a.effs, litIn t.facts.length e.lit) (out : List Fr) :
    SpecP Try.prog 87 [.task t, .act a, .ints n1 w] out fun r ro => r = .int (dropS t.facts.length a w) ∧ ro = [] := by
  refine spec_body cx_ok kp87 [] (fn := Try.f87) (by kernel_rfl) rfl (by kernel_rfl) rfl (by unfold FnOK; kernel_rfl) fun hok => ?_
  refine SpecP.mono (f72_spec t a (by omega) hp he _) ?_
  rintro _ _ ⟨rfl, rfl⟩
  have hSl := changesL_len t.facts.length a
  have hS : ∀ i, sumZ (fun f => dropI (wAt (changesL t.facts.length a) f) (wAt w f)) (i + 1) = sumZ (fun f => dropI (wAt (changesL t.facts.length a) f) (wAt w f)) i + dropI (wAt (changesL t.facts.length a) i) (wAt w i) := fun i => rfl
  have hB : ∀ i, i ≤ 1000 → -1125899906842624000 ≤ sumZ (fun f => dropI (wAt (changesL t.facts.length a) f) (wAt w f)) i ∧ sumZ (fun f => dropI (wAt (changesL t.facts.length a) f) (wAt w f)) i ≤ 1125899906842624000 := fun i hi => by
    have := sumZ_in (f := fun f => dropI (wAt (changesL t.facts.length a) f) (wAt w f)) (b := 1125899906842624) (n := i) fun f _ => dropI_in (wAt_in hw f)
    omega
  rw [dropS]
  generalize changesL t.facts.length a = S at hSl hS hB ⊢
  generalize hG : (fun n => sumZ (fun f => dropI (wAt S f) (wAt w f)) n) = G
  have hG' : ∀ i, sumZ (fun f => dropI (wAt S f) (wAt w f)) i = G i := fun i => congrFun hG i
  have hG0 : G 0 = 0 := by rw [← hG]; rfl
  simp only [hG'] at hS hB ⊢
  clear hG hG'
  refine LoopW.mk Nat (fun i => i ≤ S.length) (fun i => [(2, .ints n1 w), (7, .int (G i)), (13, .ints false S), (14, .int (S.map tI).length), (15, .int i)])
    (fun _ => ⟨out, [(24, .box (cellsTask t)), (32, .box [.t (.v (.string a.name)), .int a.cost, .lits a.pn a.pre, .effs a.en a.effs])]⟩) (fun i => S.length - i) 0 (Nat.zero_le _) ⟨by rw [hG0]; rfl, rfl⟩ fun i hI => ?_
  refine And.intro (fun h1 => ?_) fun h1 => ?_
  · have hi : i < S.length := lt_of_dec h1
    have hiw : i < w.length := by omega
    have hs := hS i
    have hb0 := hB i (by omega)
    have hb1 := hB (i + 1) (by omega)
    have hwi := wAt_in hw i
    rw [wAt_eq hi] at hs
    refine And.intro (by omega) (Exists.intro _ (And.intro (get_map hi) ?_))
    have hgw : (w.map tI)[((i : Nat) : Int).toNat]? = some (tI (wAt w i)) := by rw [Int.toNat_natCast, List.getElem?_map, List.getElem?_eq_getElem hiw, wAt_eq hiw]; rfl
    generalize wAt w i = x at hs hgw hwi
    generalize S[i] = q at hs
    refine And.intro (by omega) (Exists.intro _ (And.intro hgw ?_))
    have hm : (if x > 0 then x else (0 : Int)) = max0 x := rfl
    have hm2 : (if 0 - x > 0 then 0 - x else (0 : Int)) = max0 (-x) := by rw [max0, Int.zero_sub]
    refine And.intro (fun h2 => ?_) fun h2 => ?_
    · have h2' : q = 1 := by simpa using h2
      rw [dropI, if_pos h2'] at hs
      refine And.intro (by omega) (And.intro (by omega) ?_)
      refine And.intro (by omega) (And.intro (by omega) ?_)
      refine Exists.intro (i + 1) (And.intro (by show S.length - (i + 1) < S.length - i; omega) (And.intro hi (And.intro ?_ rfl)))
      rw [hs, ← Int.sub_eq_add_neg]; rfl
    have h2' : ¬ q = 1 := by simpa using h2
    rw [dropI, if_neg h2'] at hs
    refine And.intro (fun h3 => ?_) fun h3 => ?_
    · have h3' : q = 2 := by simpa using h3
      rw [if_pos h3'] at hs
      refine And.intro (by omega) (And.intro (by omega) ?_)
      refine And.intro (by show (-9223372036854775808 : Int) ≤ G i + (if 0 - x > 0 then 0 - x else 0); rw [hm2]; omega) (And.intro (by show G i + (if 0 - x > 0 then 0 - x else 0) ≤ (9223372036854775807 : Int); rw [hm2]; omega) ?_)
      refine And.intro (by omega) (And.intro (by omega) ?_)
      refine Exists.intro (i + 1) (And.intro (by show S.length - (i + 1) < S.length - i; omega) (And.intro hi (And.intro ?_ rfl)))
      rw [hs, ← hm2]; rfl
    have h3' : ¬ q = 2 := by simpa using h3
    rw [if_neg h3'] at hs
    refine And.intro (fun h4 => ?_) fun h4 => ?_
    · have h4' : q = 3 := by simpa using h4
      rw [if_pos h4'] at hs
      refine And.intro (by omega) (And.intro (by omega) ?_)
      refine And.intro (by omega) (And.intro (by omega) ?_)
      refine Exists.intro (i + 1) (And.intro (by show S.length - (i + 1) < S.length - i; omega) (And.intro hi (And.intro ?_ rfl)))
      rw [hs]; rfl
    have h4' : ¬ q = 3 := by simpa using h4
    rw [if_neg h4'] at hs
    refine And.intro (fun h5 => ?_) fun h5 => ?_
    · have h5' : q = 4 := by simpa using h5
      rw [if_pos h5'] at hs
      refine And.intro (by show (-9223372036854775808 : Int) ≤ G i + (if x > 0 then x else 0); rw [hm]; omega) (And.intro (by show G i + (if x > 0 then x else 0) ≤ (9223372036854775807 : Int); rw [hm]; omega) ?_)
      refine And.intro (by omega) (And.intro (by omega) ?_)
      refine Exists.intro (i + 1) (And.intro (by show S.length - (i + 1) < S.length - i; omega) (And.intro hi (And.intro ?_ rfl)))
      rw [hs]; rfl
    · have h5' : ¬ q = 4 := by simpa using h5
      rw [if_neg h5', Int.add_zero] at hs
      refine And.intro (by omega) (And.intro (by omega) ?_)
      refine Exists.intro (i + 1) (And.intro (by show S.length - (i + 1) < S.length - i; omega) (And.intro hi (And.intro ?_ rfl)))
      rw [hs]; rfl
  · have hi : i = t.facts.length := by have := ge_of_dec h1; omega
    refine Exists.intro [] (And.intro ?_ rfl)
    rw [← hi]; rfl

/-- Right, and free. -/
def rightB (t : Task) (den c : Int) (w : List Int) : Bool := decide (c + goalS t.facts.length t.goal w ≤ 0) && t.acts.all fun a => decide (dropS t.facts.length a w ≤ den * a.cost)
def freeB (t : Task) (c : Int) (w : List Int) : Bool := decide (c + goalS t.facts.length t.goal w ≤ 0) && t.acts.all fun a => decide (dropS t.facts.length a w ≤ 0)
end Go.Fw

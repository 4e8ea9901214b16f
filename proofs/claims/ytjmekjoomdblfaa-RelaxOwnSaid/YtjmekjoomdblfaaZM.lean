/- The functions of the relaxation. -/
import Derived.Test.YtjmekjoomdblfaaZL

/- What the program's functions do: what is asked of a task, a state and literals. -/
namespace Go.Fw
open Go Go.Proofs Heap
set_option maxRecDepth 10000

def outL (t : Task) (x : Lit) : Bool := decide (x.fact < 0) || decide (x.fact ≥ t.facts.length)
theorem f66_spec (t : Task) (x : Lit) (fr0 fr1 fr2 : Fr) (out : List Fr) :
    SpecP Try.prog 66 [.lit x, .ptr (.fr 2 16) 0] (fr0 :: fr1 :: ((16, .box (cellsTask t)) :: fr2) :: out) fun r ro => r = .bool (outL t x) ∧ ro = [] := by
  refine spec_body cx_ok [] [] (fn := Try.f66) (by kernel_rfl) rfl (by kernel_rfl) rfl (by unfold FnOK; kernel_rfl) fun hok => ?_
  refine And.intro (fun h1 => ?_) fun h1 => ?_
  · exact Exists.intro [] (ret_bool (by rw [outL, h1]; rfl) rfl)
  refine Exists.intro _ (And.intro rfl ?_)
  refine And.intro (fun h2 => ?_) fun h2 => ?_
  · exact Exists.intro [] (ret_bool (by rw [List.length_map] at h2; rw [outL, h1, h2]; rfl) rfl)
  · exact Exists.intro [] (ret_bool (by rw [List.length_map] at h2; rw [outL, h1, h2]; rfl) rfl)
theorem f49_spec (t : Task) (n2 : Bool) (l : List Lit) (out : List Fr) : SpecP Try.prog 49 [.task t, .lits n2 l] out fun r ro => r = .bool (!l.any (outL t)) ∧ ro = [] := by
  refine spec_body cx_ok [] [] (fn := Try.f49) (by kernel_rfl) rfl (by kernel_rfl) rfl (by unfold FnOK; kernel_rfl) fun hok => ?_
  refine SpecP.mono (f65_spec n2 l 66 0 16 (outL t) _ (fun x _ => f66_spec t x [] [] [] out)) ?_
  rintro _ _ ⟨rfl, rfl⟩
  refine And.intro trivial (And.intro trivial ?_)
  refine And.intro (fun h => ?_) fun h => ?_
  · exact Exists.intro [] (ret_bool (by rw [h]) rfl)
  · exact Exists.intro [] (ret_bool (by rw [h]) rfl)
def askI (t : Task) (s : List Int) (l : List Lit) : Int := if fineI t s = 0 then (if l.any (outL t) then 1 else 0) else fineI t s
theorem f26_spec (t : Task) (n1 n2 : Bool) (s : List Int) (l : List Lit) (out : List Fr) : SpecP Try.prog 26 [.task t, .ints n1 s, .lits n2 l] out fun r ro => r = .int (askI t s l) ∧ ro = [] := by
  refine spec_body cx_ok [] [] (fn := Try.f26) (by kernel_rfl) rfl (by kernel_rfl) rfl (by unfold FnOK; kernel_rfl) fun hok => ?_
  refine SpecP.mono (f46_spec t n1 s []) ?_
  rintro _ _ ⟨rfl, rfl⟩
  refine And.intro (fun h => ?_) fun h => ?_
  · have h0 : fineI t s ≠ 0 := by simpa using h
    exact Exists.intro [] ⟨by rw [askI, if_neg h0]; rfl, rfl⟩
  have h0 : fineI t s = 0 := by simpa using h
  refine SpecP.mono (f49_spec t n2 l []) ?_
  rintro _ _ ⟨rfl, rfl⟩
  cases hl : l.any (outL t)
  · exact And.intro (fun _ => Exists.intro [] ⟨by rw [askI, if_pos h0, hl]; rfl, rfl⟩) fun h => by cases h
  · exact And.intro (fun h => by cases h) fun _ => Exists.intro [] ⟨by rw [askI, if_pos h0, hl]; rfl, rfl⟩

def kp33 : Kp := [(2, ([2, 7, 8, 9], [16]))]
theorem f33_spec (t : Task) (n2 : Bool) (l : List Lit) (out : List Fr) : SpecP Try.prog 33 [.task t, .lits n2 l] out fun r ro => r = .bool (!l.any (outL t)) ∧ ro = [] := by
  refine spec_body cx_ok kp33 [] (fn := Try.f33) (by kernel_rfl) rfl (by kernel_rfl) rfl (by unfold FnOK; kernel_rfl) fun hok => ?_
  have hmx := le_max hok.2.1.1
  refine LoopW.mk Nat (fun i => i ≤ l.length ∧ (l.take i).any (outL t) = false) (fun i => [(2, .ptr (.cur 16) 0), (7, .lits n2 l), (8, .int (l.map tLit).length), (9, .int i)])
    (fun _ => ⟨out, [(16, .box (cellsTask t))]⟩) (fun i => l.length - i) 0 ⟨Nat.zero_le _, rfl⟩ ⟨rfl, rfl⟩ fun i hI => ?_
  refine And.intro (fun h1 => ?_) fun h1 => ?_
  · have hi := lt_of_dec h1
    refine And.intro (by omega) (Exists.intro _ (And.intro (get_map hi) ?_))
    refine And.intro (fun h2 => ?_) fun h2 => ?_
    · exact Exists.intro [] (ret_bool (by rw [any_true hi (p := outL t) (by rw [outL, h2]; rfl)]; rfl) rfl)
    refine And.intro (fun h3 => ?_) fun h3 => ?_
    · exact Exists.intro [] (ret_bool (by rw [any_true hi (p := outL t) (by rw [List.length_map] at h3; rw [outL, h3, Bool.or_true])]; rfl) rfl)
    refine And.intro (by omega) (And.intro (by omega) ?_)
    exact Exists.intro (i + 1) (And.intro (by show l.length - (i + 1) < l.length - i; omega) (And.intro ⟨hi, any_step hi hI.2 (by rw [List.length_map] at h3; rw [outL, h2, h3]; rfl)⟩ (And.intro rfl rfl)))
  · exact Exists.intro [] (ret_bool (by rw [any_end (ge_of_dec h1) hI.2]; rfl) rfl)
theorem f11_spec (t : Task) (n1 n2 : Bool) (s : List Int) (l : List Lit) (out : List Fr) : SpecP Try.prog 11 [.task t, .ints n1 s, .lits n2 l] out fun r ro => r = .int (askI t s l) ∧ ro = [] := by
  refine spec_body cx_ok [] [] (fn := Try.f11) (by kernel_rfl) rfl (by kernel_rfl) rfl (by unfold FnOK; kernel_rfl) fun hok => ?_
  refine SpecP.mono (f31_spec t []) ?_
  rintro _ _ ⟨rfl, rfl⟩
  cases h1 : isB t
  · refine And.intro (fun h => by cases h) fun _ => ?_
    exact Exists.intro [] ⟨by unfold askI fineI; rw [h1]; rfl, rfl⟩
  refine And.intro (fun _ => ?_) fun h => by cases h
  refine SpecP.mono (f32_spec t n1 s []) ?_
  rintro _ _ ⟨rfl, rfl⟩
  cases h2 : risingB s t.facts.length
  · refine And.intro (fun h => by cases h) fun _ => ?_
    exact Exists.intro [] ⟨by unfold askI fineI; rw [h1, h2]; rfl, rfl⟩
  refine And.intro (fun _ => ?_) fun h => by cases h
  refine SpecP.mono (f33_spec t n2 l []) ?_
  rintro _ _ ⟨rfl, rfl⟩
  have h0 : fineI t s = 0 := by unfold fineI; rw [h1, h2]; rfl
  cases hl : l.any (outL t)
  · exact And.intro (fun _ => Exists.intro [] ⟨by rw [askI, if_pos h0, hl]; rfl, rfl⟩) fun h => by cases h
  · exact And.intro (fun h => by cases h) fun _ => Exists.intro [] ⟨by rw [askI, if_pos h0, hl]; rfl, rfl⟩

theorem fine_zero {t : Task} {s : List Int} (h : fineI t s = 0) : isB t = true ∧ risingB s t.facts.length = true := by
  unfold fineI at h
  cases h1 : isB t
  · rw [h1] at h; simp at h
  · cases h2 : risingB s t.facts.length
    · rw [h1, h2] at h; simp at h
    · exact ⟨rfl, rfl⟩
theorem ask_zero {t : Task} {s : List Int} {l : List Lit} (h : askI t s l = 0) : fineI t s = 0 ∧ ∀ x ∈ l, litIn t.facts.length x := by
  unfold askI at h
  split at h
  · rename_i h0
    refine ⟨h0, fun x hx => ?_⟩
    cases hl : l.any (outL t)
    · have := List.any_eq_false.1 hl x hx
      simp [outL] at this
      exact ⟨by omega, by omega⟩
    · rw [hl] at h; simp at h
  · rename_i h0; exact absurd h h0

end Go.Fw

/- What the program's functions do: the estimates of lists of literals. -/
namespace Go.Fw
open Go Go.Proofs Heap
set_option maxRecDepth 10000

def codeN (x : Lit) : Nat := (codeI x).toNat
def gotB (e : List Int) (l : List Lit) : Bool := l.all fun x => decide (0 ≤ ev e (codeN x))
theorem comb_snoc {add : Bool} {e : List Int} (he : ∀ k, ev e k ≤ farI) (l : List Nat) (x : Nat) : comb add e (l ++ [x]) = if add then min farI (comb add e l + pos (ev e x)) else max (comb add e l) (pos (ev e x)) := by
  have hp : ∀ k, 0 ≤ pos (ev e k) ∧ pos (ev e k) ≤ farI := fun k => ⟨pos_nonneg _, by have := he k; unfold pos; split <;> (unfold farI at *; omega)⟩
  induction l with
  | nil =>
    have := hp x
    show comb add e [x] = _
    unfold comb
    show (if add = true then min farI (pos (ev e x) + 0) else max (pos (ev e x)) 0) = if add = true then min farI (0 + pos (ev e x)) else max 0 (pos (ev e x))
    split <;> omega
  | cons y r ih =>
    have := hp x
    have := hp y
    show comb add e (y :: (r ++ [x])) = if add = true then min farI (comb add e (y :: r) + pos (ev e x)) else max (comb add e (y :: r)) (pos (ev e x))
    rw [comb, ih, comb]
    cases add
    · simp only [Bool.false_eq_true, if_false]; omega
    · simp only [if_true]; omega

def maxV (e : List Int) (l : List Lit) : Int := if gotB e l then comb false e (l.map codeN) else 0
theorem code_cast {n : Nat} {x : Lit} (h : litIn n x) : codeI x = ((codeN x : Nat) : Int) := by have := (code_range h).1; unfold codeN; omega
theorem got_snoc {e : List Int} {l : List Lit} {i : Nat} (hi : i < l.length) : gotB e (l.take (i + 1)) = (gotB e (l.take i) && decide (0 ≤ ev e (codeN l[i]))) := by
  unfold gotB
  rw [List.take_add_one, List.all_append, List.getElem?_eq_getElem hi]; simp
theorem got_false {e : List Int} {l : List Lit} {i : Nat} (hi : i < l.length) (h : ev e (codeN l[i]) < 0) : gotB e l = false := all_false hi (by simpa using h)
theorem take_codes {l : List Lit} {i : Nat} (hi : i < l.length) : (l.take (i + 1)).map codeN = (l.take i).map codeN ++ [codeN l[i]] := by
  rw [List.take_add_one, List.getElem?_eq_getElem hi, List.map_append]; rfl
def kp27 : Kp := [(4, ([8, 9, 16, 17, 18], [64]))]
def od27 : Od := [(6, [(0, .tree (.pure 0 (.pure 1 (.pure 2 (.last 3 (.pure 4 (.pure 5 (.pure 6 .done))) [0, 1])))))])]
theorem f27_spec (t : Task) (n1 n2 : Bool) (s : List Int) (l : List Lit) (h0 : askI t s l = 0) (out : List Fr) : SpecP Try.prog 27 [.task t, .ints n1 s, .lits n2 l] out fun r ro => ∃ d, EstOK t s false d ∧ r = .tup [.int (maxV d.v l), .bool (gotB d.v l)] ∧ ro = [] := by
  obtain ⟨hf, hl⟩ := ask_zero h0
  obtain ⟨ht, hs⟩ := fine_zero hf
  have K := task_ok ht
  refine spec_body cx_ok kp27 od27 (fn := Try.f27) (by kernel_rfl) rfl (by kernel_rfl) rfl (by unfold FnOK; kernel_rfl) fun hok => ?_
  have hmx := le_max hok.2.2.1.1
  refine SpecP.mono (f28_spec t n1 s false ht hs []) ?_
  rintro _ _ ⟨d, hd, rfl, rfl⟩
  have hlen : d.v.length = 2 * t.facts.length := hd.est.len
  refine LoopW.mk (Nat × Int) (fun p => p.1 ≤ l.length ∧ gotB d.v (l.take p.1) = true ∧ p.2 = comb false d.v ((l.take p.1).map codeN)) (fun p => [(8, .ptr (.cur 64) 0), (9, .int p.2), (16, .lits n2 l), (17, .int (l.map tLit).length), (18, .int p.1)])
    (fun _ => ⟨out, [(64, .box [.ints false d.v, .ints false d.by_, .ints d.order.isEmpty d.order])]⟩) (fun p => l.length - p.1) (0, 0) ⟨Nat.zero_le _, rfl, rfl⟩ ⟨rfl, rfl⟩ ?_
  rintro ⟨i, n⟩ ⟨hi0, hg, hn⟩
  simp only at hi0 hg hn
  refine And.intro (fun h1 => ?_) fun h1 => ?_
  · have hi : i < l.length := lt_of_dec h1
    have hin := hl _ (List.getElem_mem hi)
    have hcr := code_range hin
    refine And.intro (by omega) (Exists.intro _ (And.intro (get_map hi) ?_))
    refine SpecP.mono (f29_spec l[i] (big_in K hin) []) ?_
    rintro _ _ ⟨rfl, rfl⟩
    refine And.intro rfl (And.intro rfl ?_)
    have hkv : codeN l[i] < d.v.length := by rw [hlen]; unfold codeN; omega
    have hgv : (d.v.map tI)[(codeI l[i]).toNat]? = some (tI (ev d.v (codeN l[i]))) := by
      have := getI hkv
      rw [Nat.zero_add, Int.toNat_natCast] at this; exact this
    refine And.intro hcr.1 (Exists.intro _ (And.intro hgv ?_))
    refine And.intro (fun h2 => ?_) fun h2 => ?_
    · have h2' : ev d.v (codeN l[i]) < 0 := of_decide_eq_true h2
      exact Exists.intro [] ⟨d, hd, by rw [maxV, got_false hi h2']; rfl, rfl⟩
    have h2' : ¬ ev d.v (codeN l[i]) < 0 := of_decide_eq_false h2
    refine And.intro (by omega) (And.intro (by omega) ?_)
    refine Exists.intro (i + 1, if ev d.v (codeN l[i]) > n then ev d.v (codeN l[i]) else n) (And.intro (by show l.length - (i + 1) < l.length - i; omega) (And.intro ⟨hi, ?_, ?_⟩ (And.intro rfl rfl)))
    · show gotB d.v (l.take (i + 1)) = true
      rw [got_snoc hi, hg]; simp; omega
    · show (if ev d.v (codeN l[i]) > n then ev d.v (codeN l[i]) else n) = comb false d.v ((l.take (i + 1)).map codeN)
      rw [take_codes hi, comb_snoc hd.far, ← hn, pos_of (by omega)]
      simp only [Bool.false_eq_true, if_false]
      split <;> omega
  · have hi : i = l.length := by have := ge_of_dec h1; omega
    rw [hi, List.take_length] at hg hn
    exact Exists.intro [] ⟨d, hd, by rw [maxV, hg, hn]; rfl, rfl⟩

theorem f9_spec (t : Task) (n1 n2 : Bool) (s : List Int) (l : List Lit) (out : List Fr) : SpecP Try.prog 9 [.task t, .ints n1 s, .lits n2 l] out fun r ro =>
    ((askI t s l ≠ 0 ∧ r = .tup [.int 0, .bool false, .int (askI t s l)]) ∨ (askI t s l = 0 ∧ ∃ d, EstOK t s false d ∧ r = .tup [.int (maxV d.v l), .bool (gotB d.v l), .int 0])) ∧ ro = [] := by
  refine spec_body cx_ok [] [] (fn := Try.f9) (by kernel_rfl) rfl (by kernel_rfl) rfl (by unfold FnOK; kernel_rfl) fun hok => ?_
  refine SpecP.mono (f26_spec t n1 n2 s l []) ?_
  rintro _ _ ⟨rfl, rfl⟩
  refine And.intro (fun h => ?_) fun h => ?_
  · have h0 : askI t s l ≠ 0 := by simpa using h
    exact Exists.intro [] ⟨.inl ⟨h0, rfl⟩, rfl⟩
  have h0 : askI t s l = 0 := by simpa using h
  refine SpecP.mono (f27_spec t n1 n2 s l h0 []) ?_
  rintro _ _ ⟨d, hd, rfl, rfl⟩
  refine And.intro (fun h => ?_) fun h => ?_
  · exact Exists.intro [] ⟨.inr ⟨h0, d, hd, by rw [h]; rfl⟩, rfl⟩
  · exact Exists.intro [] ⟨.inr ⟨h0, d, hd, by rw [h]; rfl⟩, rfl⟩
theorem f19_spec (t : Task) (n1 n2 : Bool) (s : List Int) (l : List Lit) (out : List Fr) : SpecP Try.prog 19 [.task t, .ints n1 s, .lits n2 l] out fun r ro =>
    ((askI t s l ≠ 0 ∧ r = .tup [.bool false, .int (askI t s l)]) ∨ (askI t s l = 0 ∧ ∃ d, EstOK t s false d ∧ r = .tup [.bool (gotB d.v l), .int 0])) ∧ ro = [] := by
  refine spec_body cx_ok [] [] (fn := Try.f19) (by kernel_rfl) rfl (by kernel_rfl) rfl (by unfold FnOK; kernel_rfl) fun hok => ?_
  refine SpecP.mono (f9_spec t n1 n2 s l []) ?_
  rintro _ _ ⟨h | ⟨h0, d, hd, rfl⟩, rfl⟩
  · obtain ⟨h0, rfl⟩ := h
    refine And.intro (fun h => by cases h) fun _ => ?_
    exact Exists.intro [] ⟨.inl ⟨h0, rfl⟩, rfl⟩
  · refine And.intro (fun h => ?_) fun h => ?_
    · exact Exists.intro [] ⟨.inr ⟨h0, d, hd, by rw [h]; rfl⟩, rfl⟩
    · exact Exists.intro [] ⟨.inr ⟨h0, d, hd, by rw [h]; rfl⟩, rfl⟩

/-! ### The additive estimate -/
def codesD (l : List Lit) : List Nat := (dedupI (l.map codeI)).map Int.toNat
def addV (e : List Int) (l : List Lit) : Int := comb true e (codesD l)
def kp10 : Kp := [(8, ([10, 11, 12, 26, 27, 28], [80, 376]))]
set_option maxHeartbeats 1000000 in
theorem f10_spec (t : Task) (n1 n2 : Bool) (s : List Int) (l : List Lit) (hll : l.length ≤ 1000000000) (out : List Fr) : SpecP Try.prog 10 [.task t, .ints n1 s, .lits n2 l] out fun r ro =>
    ((askI t s l ≠ 0 ∧ r = .tup [.int 0, .bool false, .int (askI t s l)]) ∨ (askI t s l = 0 ∧ ∃ d, EstOK t s true d ∧ r = if gotB d.v l = false then .tup [.int 0, .bool false, .int 0] else if addV d.v l ≥ farI then .tup [.int 0, .bool false, .int 2] else .tup [.int (addV d.v l), .bool true, .int 0])) ∧ ro = [] := by
  refine spec_body cx_ok kp10 [] (fn := Try.f10) (by kernel_rfl) rfl (by kernel_rfl) rfl (by unfold FnOK; kernel_rfl) fun hok => ?_
  have hmx := le_max hok.2.2.1.1
  refine SpecP.mono (f26_spec t n1 n2 s l []) ?_
  rintro _ _ ⟨rfl, rfl⟩
  refine And.intro (fun h => ?_) fun h => ?_
  · have h0 : askI t s l ≠ 0 := by simpa using h
    exact Exists.intro [] ⟨.inl ⟨h0, rfl⟩, rfl⟩
  have h0 : askI t s l = 0 := by simpa using h
  obtain ⟨hf, hl⟩ := ask_zero h0
  obtain ⟨ht, hs⟩ := fine_zero hf
  have K := task_ok ht
  refine SpecP.mono (f28_spec t n1 s true ht hs []) ?_
  rintro _ _ ⟨d, hd, rfl, rfl⟩
  have hlen : d.v.length = 2 * t.facts.length := hd.est.len
  refine LoopW.mk (Nat × (Int × List Int)) (fun p => p.1 ≤ l.length ∧ gotB d.v (l.take p.1) = true ∧ p.2.2 = dedupI ((l.take p.1).map codeI) ∧ p.2.1 = comb true d.v (p.2.2.map Int.toNat)) (fun p => [(10, .ptr (.cur 80) 0), (11, .int p.2.1), (12, accV 376 1 (p.2.2.map tI)), (26, .lits n2 l), (27, .int (l.map tLit).length), (28, .int p.1)])
    (fun p => ⟨out, (80, .box [.ints false d.v, .ints false d.by_, .ints d.order.isEmpty d.order]) :: accO 376 3 1 (p.2.2.map tI)⟩) (fun p => l.length - p.1) (0, 0, []) ⟨Nat.zero_le _, rfl, rfl, rfl⟩ ⟨rfl, rfl⟩ ?_
  rintro ⟨i, n, M⟩ ⟨hi0, hg, hM, hn⟩
  simp only at hi0 hg hn hM
  have hMl : M.length ≤ 1000000000 := by rw [hM]; have := dedup_len ((l.take i).map codeI); rw [List.length_map, List.length_take] at this; omega
  have hcf : ∀ L, 0 ≤ comb true d.v L ∧ comb true d.v L ≤ farI := fun L => ⟨comb_nonneg .., comb_le_far hd.far _⟩
  have hn1 := hcf (M.map Int.toNat)
  rw [← hn] at hn1
  cases M
  case' nil => let M2 : List Int := []
  case' cons x r => let M2 : List Int := x :: r
  all_goals
    refine And.intro (fun h1 => ?_) fun h1 => ?_
    rotate_left
    · have hi : i = l.length := by have := ge_of_dec h1; omega
      rw [hi, List.take_length] at hg hM
      have hnv : n = addV d.v l := by rw [hn, addV, codesD, hM]
      refine And.intro (fun h2 => ?_) fun h2 => ?_
      · have h2' : n ≥ farI := of_decide_eq_true h2
        exact Exists.intro [] ⟨.inr ⟨h0, d, hd, by rw [hg, if_neg (by decide), if_pos (by rw [← hnv]; exact h2')]; rfl⟩, rfl⟩
      · have h2' : ¬ n ≥ farI := of_decide_eq_false h2
        exact Exists.intro [] ⟨.inr ⟨h0, d, hd, by rw [hg, if_neg (by decide), if_neg (by rw [← hnv]; exact h2'), hnv]; rfl⟩, rfl⟩
    have hi : i < l.length := lt_of_dec h1
    have hin := hl _ (List.getElem_mem hi)
    have hcr := code_range hin
    refine And.intro (by omega) (Exists.intro _ (And.intro (get_map hi) ?_))
    refine SpecP.mono (f29_spec l[i] (big_in K hin) []) ?_
    rintro _ _ ⟨rfl, rfl⟩
    have hkv : codeN l[i] < d.v.length := by rw [hlen]; unfold codeN; omega
    have hgv : (d.v.map tI)[(codeI l[i]).toNat]? = some (tI (ev d.v (codeN l[i]))) := by
      have := getI hkv
      rw [Nat.zero_add, Int.toNat_natCast] at this; exact this
    refine And.intro hcr.1 (Exists.intro _ (And.intro hgv ?_))
    refine And.intro (fun h2 => ?_) fun h2 => ?_
    · have h2' : ev d.v (codeN l[i]) < 0 := of_decide_eq_true h2
      exact Exists.intro [] ⟨.inr ⟨h0, d, hd, by rw [got_false hi h2']; rfl⟩, rfl⟩
    have h2' : ¬ ev d.v (codeN l[i]) < 0 := of_decide_eq_false h2
    have hstep : dedupI ((l.take (i + 1)).map codeI) = addN M2 (codeI l[i]) := by
      rw [List.take_add_one, List.getElem?_eq_getElem hi]
      show dedupI (List.map codeI (l.take i ++ [l[i]])) = _
      rw [List.map_append]
      show dedupI (List.map codeI (l.take i) ++ [codeI l[i]]) = _
      rw [dedup_snoc, ← hM]
    have hg2 : gotB d.v (l.take (i + 1)) = true := by rw [got_snoc hi, hg]; simp; omega
    first
      | refine SpecP.mono (f30n_spec (codeI l[i]) []) ?_
      | (refine Exists.intro ((x :: r).map tI) (And.intro take_all.symm.symm (And.intro (Nat.le_of_eq (Nat.zero_add _)) ?_))
         refine SpecP.mono (f30_spec false (x :: r) (codeI l[i]) _) ?_)
    rintro _ _ ⟨rfl, rfl⟩
    first
      | refine And.intro trivial (And.intro trivial (And.intro (fun h4 => ?_) fun h4 => ?_))
      | refine And.intro (fun h4 => ?_) fun h4 => ?_
    · first
        | exact absurd h4 (by decide)
        | (refine And.intro (by omega) (And.intro (by omega) ?_)
           refine Exists.intro (i + 1, n, M2) (And.intro (by show l.length - (i + 1) < l.length - i; omega) (And.intro ⟨hi, hg2, ?_, hn⟩ (And.intro rfl rfl)))
           show M2 = _
           rw [hstep, addN, if_pos h4])
    · have hnew : M2 ++ [codeI l[i]] = dedupI ((l.take (i + 1)).map codeI) := by rw [hstep, addN, if_neg (by rw [show (M2.any fun x => codeI l[i] == x) = false from h4]; decide)]
      have hl4 : ∀ X : List T, ((M2.map tI) ++ [X]).length ≤ 2000000001 := fun X => by
        have : M2.length ≤ 1000000000 := hMl
        simp; omega
      have hfe := hd.far (codeN l[i])
      have hnn : (if n + ev d.v (codeN l[i]) < 1099511627777 then n + ev d.v (codeN l[i]) else 1099511627777) = comb true d.v ((M2 ++ [codeI l[i]]).map Int.toNat) := by
        have e : (M2 ++ [codeI l[i]]).map Int.toNat = M2.map Int.toNat ++ [codeN l[i]] := by rw [List.map_append]; rfl
        rw [e, comb_snoc hd.far]
        rw [if_pos rfl, show comb true d.v (M2.map Int.toNat) = n from hn.symm, pos_of (by omega)]
        unfold farI; split <;> omega
      repeat first
        | refine And.intro (Nat.le_of_ble_eq_true rfl) ?_
        | refine And.intro (by omega) ?_
        | refine And.intro rfl ?_
        | refine And.intro (Nat.le_trans (Nat.mul_le_mul_right _ (hl4 _)) (Nat.le_of_ble_eq_true rfl)) ?_
        | refine And.intro (Nat.le_trans (hl4 _) (Nat.le_of_ble_eq_true rfl)) ?_
        | refine Exists.intro _ (And.intro hgv ?_)
        | refine And.intro hcr.1 ?_
        | refine And.intro (by show (-9223372036854775808 : Int) ≤ n + ev d.v (codeN l[i]); omega) ?_
        | refine And.intro (by show n + ev d.v (codeN l[i]) ≤ 9223372036854775807; unfold farI at *; omega) ?_
      first
        | exact Exists.intro (i + 1, (if n + ev d.v (codeN l[i]) < 1099511627777 then n + ev d.v (codeN l[i]) else 1099511627777), [codeI l[i]]) (And.intro (by show l.length - (i + 1) < l.length - i; omega) (And.intro ⟨hi, hg2, hnew, hnn⟩ (And.intro rfl rfl)))
        | (refine Exists.intro (i + 1, (if n + ev d.v (codeN l[i]) < 1099511627777 then n + ev d.v (codeN l[i]) else 1099511627777), x :: (r ++ [codeI l[i]])) (And.intro (by show l.length - (i + 1) < l.length - i; omega) (And.intro ⟨hi, hg2, hnew, hnn⟩ ?_))
           have e : (r ++ [codeI l[i]]).map tI = r.map tI ++ [tI (codeI l[i])] := by simp
           simp only [List.map_cons, e]
           exact And.intro rfl rfl)

end Go.Fw

/- What the program's functions do: what is reached; what holds at first; what is collected. -/
namespace Go.Fw
open Go Go.Proofs Heap
set_option maxRecDepth 10000

def litsOf (e : List Int) (n : Nat) : List Lit := ((List.range n).filter fun k => decide (0 ≤ ev e k)).map fun (k : Nat) => litI (k : Int)
theorem litsOf_succ (e : List Int) (n : Nat) : litsOf e (n + 1) = litsOf e n ++ (if 0 ≤ ev e n then [litI (n : Int)] else []) := by
  unfold litsOf
  rw [List.range_succ, List.filter_append, List.map_append]
  congr 1
  simp only [List.filter_cons, List.filter_nil, decide_eq_true_eq]
  split <;> rfl
theorem litsOf_len (e : List Int) (n : Nat) : (litsOf e n).length ≤ n := by
  unfold litsOf
  rw [List.length_map]
  exact Nat.le_trans (List.length_filter_le _ _) (by simp)
def kp18 : Kp := [(6, ([7, 19, 20, 21], [288]))]
theorem f18_spec (t : Task) (n1 : Bool) (s : List Int) (out : List Fr) : SpecP Try.prog 18 [.task t, .ints n1 s] out fun r ro =>
    (fineI t s ≠ 0 ∧ r = .tup [.t (.sl true 0 []), .int (fineI t s)] ∧ ro = []) ∨ (fineI t s = 0 ∧ ∃ d, EstOK t s false d ∧ r = .tup [accV 288 2 ((litsOf d.v (2 * t.facts.length)).map tLit), .int 0] ∧ ro = accO 288 51 2 ((litsOf d.v (2 * t.facts.length)).map tLit)) := by
  refine spec_body cx_ok kp18 [] (fn := Try.f18) (by kernel_rfl) rfl (by kernel_rfl) rfl (by unfold FnOK; kernel_rfl) fun hok => ?_
  refine SpecP.mono (f46_spec t n1 s []) ?_
  rintro _ _ ⟨rfl, rfl⟩
  refine And.intro (fun h => ?_) fun h => ?_
  · have h0 : fineI t s ≠ 0 := by simpa using h
    exact Exists.intro [] (.inl ⟨h0, rfl, rfl⟩)
  have h0 : fineI t s = 0 := by simpa using h
  obtain ⟨ht, hs⟩ := fine_zero h0
  have K := task_ok ht
  have hN := K.facts
  refine SpecP.mono (f28_spec t n1 s false ht hs []) ?_
  rintro _ _ ⟨d, hd, rfl, rfl⟩
  have hlen : d.v.length = 2 * t.facts.length := hd.est.len
  refine LoopW.mk (Nat × List Lit) (fun p => p.1 ≤ d.v.length ∧ p.2 = litsOf d.v p.1) (fun p => [(7, accV 288 2 (p.2.map tLit)), (19, .ints false d.v), (20, .int (d.v.map tI).length), (21, .int p.1)])
    (fun p => ⟨out, accO 288 51 2 (p.2.map tLit)⟩) (fun p => d.v.length - p.1) (0, []) ⟨Nat.zero_le _, rfl⟩ ⟨rfl, rfl⟩ ?_
  rintro ⟨i, M⟩ ⟨hi0, hM⟩
  simp only at hi0 hM
  have hMl := litsOf_len d.v i
  rw [← hM] at hMl
  cases M
  case' nil => let M2 : List Lit := []
  case' cons x r => let M2 : List Lit := x :: r
  all_goals
    refine And.intro (fun h1 => ?_) fun h1 => ?_
    rotate_left
    · have hi : i = d.v.length := by have := ge_of_dec h1; have hi0' : i ≤ d.v.length := hi0; omega
      rw [hi, hlen] at hM
      exact Exists.intro [288] (.inr ⟨h0, d, hd, by rw [← hM]; rfl, by rw [← hM]; rfl⟩)
    have hi : i < d.v.length := lt_of_dec h1
    have hgv : (d.v.map tI)[((i : Nat) : Int).toNat]? = some (tI (ev d.v i)) := by
      have := getI hi
      rw [Nat.zero_add] at this; exact this
    refine And.intro (by omega) (Exists.intro _ (And.intro hgv ?_))
    refine And.intro (fun h2 => ?_) fun h2 => ?_
    rotate_left
    · have h2' : ¬ ev d.v i ≥ 0 := of_decide_eq_false h2
      refine And.intro (by show (-9223372036854775808 : Int) ≤ (i : Int) + 1; omega) (And.intro (by show (i : Int) + 1 ≤ 9223372036854775807; omega) ?_)
      refine Exists.intro (i + 1, M2) (And.intro (by show d.v.length - (i + 1) < d.v.length - i; omega) (And.intro ⟨hi, ?_⟩ (And.intro rfl rfl)))
      show M2 = _
      rw [litsOf_succ, if_neg h2', List.append_nil]; exact hM
    have h2' : 0 ≤ ev d.v i := of_decide_eq_true h2
    have e3 : (i : Int).tdiv 2 = ((i / 2 : Nat) : Int) := by rw [Int.tdiv_eq_ediv_of_nonneg (by omega)]; omega
    refine And.intro (by decide) (And.intro (by show (-9223372036854775808 : Int) ≤ (i : Int).tdiv 2; rw [e3]; omega) (And.intro (by show (i : Int).tdiv 2 ≤ 9223372036854775807; rw [e3]; omega) (And.intro (by decide) ?_)))
    have hl4 : ∀ X : List T, ((M2.map tLit) ++ [X]).length ≤ 100000 := fun X => by
      have h3 : M2.length ≤ i := hMl
      rw [List.length_append, List.length_map, List.length_singleton]; omega
    have hnew : M2 ++ [litI (i : Int)] = litsOf d.v (i + 1) := by rw [litsOf_succ, if_pos h2', ← hM]
    refine And.intro (fun h3 => ?_) fun h3 => ?_
    all_goals
      have hlit : tLit (litI (i : Int)) = [.v (.int .i64 ((i : Int).tdiv 2)), .v (.bool _)] := congrArg (fun b => [T.v (.int .i64 ((i : Int).tdiv 2)), T.v (.bool b)]) h3
      repeat first
        | refine And.intro (Nat.le_of_ble_eq_true rfl) ?_
        | refine And.intro rfl ?_
        | refine And.intro (Nat.le_trans (Nat.mul_le_mul_right _ (hl4 _)) (Nat.le_of_ble_eq_true rfl)) ?_
        | refine And.intro (Nat.le_trans (hl4 _) (Nat.le_of_ble_eq_true rfl)) ?_
      refine And.intro (by show (-9223372036854775808 : Int) ≤ (i : Int) + 1; omega) (And.intro (by show (i : Int) + 1 ≤ 9223372036854775807; omega) ?_)
      first
        | (refine Exists.intro (i + 1, [litI (i : Int)]) (And.intro (by show d.v.length - (i + 1) < d.v.length - i; omega) (And.intro ⟨hi, hnew⟩ ?_))
           simp only [List.map_cons, List.map_nil, hlit]
           exact And.intro rfl rfl)
        | (refine Exists.intro (i + 1, x :: (r ++ [litI (i : Int)])) (And.intro (by show d.v.length - (i + 1) < d.v.length - i; omega) (And.intro ⟨hi, hnew⟩ ?_))
           simp only [List.map_cons, List.map_append, List.map_nil, hlit]
           exact And.intro rfl rfl)

/-! ### What holds at first -/
def kp41 : Kp := [(3, ([1, 5, 16, 17], [104]))]
theorem f41_spec (t : Task) (n1 : Bool) (s : List Int) (ht : isB t = true) (hs : risingB s t.facts.length = true) (out : List Fr) : SpecP Try.prog 41 [.task t, .ints n1 s] out fun r ro =>
    ∃ b, Ini t.facts.length s b ∧ r = .osl (.cur 104) 1 0 b.length ∧ ro = [(104, .row 4 1 (b.map tB))] := by
  refine spec_body cx_ok kp41 [] (fn := Try.f41) (by kernel_rfl) rfl (by kernel_rfl) rfl (by unfold FnOK; kernel_rfl) fun hok => ?_
  have K := task_ok ht
  have hN := K.facts
  have hfl : (t.facts.map tS).length = t.facts.length := List.length_map ..
  refine And.intro (by omega) (And.intro (by omega) ?_)
  refine And.intro rfl (And.intro (by omega) (And.intro (by show (2 * ((t.facts.map tS).length : Int)) * (1 : Nat) ≤ _; omega) (And.intro (by omega) ?_)))
  refine LoopW.mk (Nat × List Bool) (fun p => p.1 ≤ t.facts.length ∧ Half t.facts.length s p.1 p.2)
    (fun p => [(1, .ints n1 s), (5, .osl (.cur 104) 1 0 (2 * (t.facts.map tS).length)), (16, .int (t.facts.map tS).length), (17, .int p.1)])
    (fun p => ⟨out, [(104, .row 4 1 (p.2.map tB))]⟩) (fun p => t.facts.length - p.1) (0, List.replicate (2 * (t.facts.map tS).length) false) ⟨Nat.zero_le _, by rw [hfl]; exact Half.zero _ _⟩ ⟨rfl, ?_⟩ ?_
  · show (⟨out, [(104, .row 4 1 (List.replicate (2 * (t.facts.map tS).length) (tB false)))]⟩ : St) = _
    rw [List.map_replicate]
  rintro ⟨i, b⟩ ⟨hi0, hH⟩
  simp only at hi0 hH
  have hbl : b.length = 2 * t.facts.length := hH.1
  refine And.intro (fun h1 => ?_) fun h1 => ?_
  · have hi : i < t.facts.length := lt_of_dec h1
    refine SpecP.mono (f53_spec n1 s t.facts.length i hs (by omega) []) ?_
    rintro _ _ ⟨p, rfl, rfl⟩
    have hc : ∀ v : Bool, 0 ≤ codeI ⟨i, !v⟩ ∧ codeI ⟨i, !v⟩ < (2 * (t.facts.map tS).length : Nat) := fun v => by
      unfold codeI; cases v <;> simp <;> omega
    have hel : ∀ v : Bool, ∃ y : Bool, (b.map tB)[0 + (codeI ⟨i, !v⟩).toNat]? = some (tB y) := fun v => by
      have := hc v
      have hlt : (codeI ⟨i, !v⟩).toNat < b.length := by rw [hbl]; omega
      exact ⟨b[(codeI ⟨i, !v⟩).toNat], by rw [Nat.zero_add, List.getElem?_map, List.getElem?_eq_getElem hlt]; rfl⟩
    have hst : ∀ v : Bool, hasB s i = v → (b.map tB).set (0 + (codeI ⟨i, !v⟩).toNat) (tB true) = (b.set (codeI ⟨(i : Int), !hasB s i⟩).toNat true).map tB := fun v hv => by rw [hv, Nat.zero_add, map_set']
    refine And.intro (fun h2 => ?_) fun h2 => ?_
    · refine SpecP.mono (f29_spec ⟨i, !true⟩ ⟨by show _ ≤ (i : Int); omega, by show (i : Int) ≤ _; omega⟩ []) ?_
      rintro _ _ ⟨rfl, rfl⟩
      obtain ⟨y, hy⟩ := hel true
      refine And.intro (hc true).1 (And.intro (hc true).2 (Exists.intro _ (And.intro hy (And.intro (Nat.le_refl 1) ?_))))
      refine And.intro (by omega) (And.intro (by omega) ?_)
      refine Exists.intro (i + 1, b.set (codeI ⟨(i : Int), !hasB s i⟩).toNat true) (And.intro (by show t.facts.length - (i + 1) < t.facts.length - i; omega) (And.intro ⟨hi, hH.step hi⟩ (And.intro rfl ?_)))
      rw [← hst _ h2]; rfl
    · refine SpecP.mono (f29_spec ⟨i, !false⟩ ⟨by show _ ≤ (i : Int); omega, by show (i : Int) ≤ _; omega⟩ []) ?_
      rintro _ _ ⟨rfl, rfl⟩
      obtain ⟨y, hy⟩ := hel false
      refine And.intro (hc false).1 (And.intro (hc false).2 (Exists.intro _ (And.intro hy (And.intro (Nat.le_refl 1) ?_))))
      refine And.intro (by omega) (And.intro (by omega) ?_)
      refine Exists.intro (i + 1, b.set (codeI ⟨(i : Int), !hasB s i⟩).toNat true) (And.intro (by show t.facts.length - (i + 1) < t.facts.length - i; omega) (And.intro ⟨hi, hH.step hi⟩ (And.intro rfl ?_)))
      rw [← hst _ h2]; rfl
  have hi : i = t.facts.length := by have := ge_of_dec h1; omega
  subst hi
  exact Exists.intro [104] ⟨b, hH.ini, by rw [hbl, ← hfl]; rfl, rfl⟩

/-! ### What is collected -/
def od73 : Od := [(1, [(0, .pure), (1, .pure), (2, .eff), (3, .pure), (4, .pure), (5, .pure), (6, .pure)])]
theorem f73_spec (n1 : Bool) (b : List Bool) (x : Lit) (hx : inB b x) (fr0 fr1 fr2 : Fr) (out : List Fr) :
    SpecP Try.prog 73 [.lit x, .ptr (.fr 2 16) 0] (fr0 :: fr1 :: ((16, .box [.bools n1 b]) :: fr2) :: out) fun r ro => r = .bool (!bitAt b x) ∧ ro = [] := by
  refine spec_body cx_ok [] od73 (fn := Try.f73) (by kernel_rfl) rfl (by kernel_rfl) rfl (by unfold FnOK; kernel_rfl) fun hok => ?_
  refine Exists.intro _ (And.intro rfl ?_)
  refine SpecP.mono (f29_spec x hx.1 []) ?_
  rintro _ _ ⟨rfl, rfl⟩
  refine And.intro ⟨rfl, rfl, rfl⟩ ?_
  refine And.intro hx.2.1 (Exists.intro _ (And.intro (bit_get hx) ?_))
  refine And.intro (fun h => ?_) fun h => ?_
  · exact Exists.intro [] (ret_bool (congrArg not h) rfl)
  · exact Exists.intro [] (ret_bool (congrArg not h) rfl)
theorem f61_spec (n1 n2 : Bool) (b : List Bool) (l : List Lit) (hl : ∀ x ∈ l, inB b x) (out : List Fr) :
    SpecP Try.prog 61 [.bools n1 b, .lits n2 l] out fun r ro => r = .bool (setHas b l) ∧ ro = [] := by
  refine spec_body cx_ok [] [] (fn := Try.f61) (by kernel_rfl) rfl (by kernel_rfl) rfl (by unfold FnOK; kernel_rfl) fun hok => ?_
  refine SpecP.mono (f65_spec n2 l 73 0 16 (fun x => !bitAt b x) _ (fun x hx => f73_spec n1 b x (hl x hx) [] [] [] out)) ?_
  rintro _ _ ⟨rfl, rfl⟩
  refine And.intro trivial (And.intro trivial ?_)
  have e : setHas b l = !l.any (fun x => !bitAt b x) := not_any fun x => by rw [Bool.not_not]; rfl
  refine And.intro (fun h => ?_) fun h => ?_
  · exact Exists.intro [] (ret_bool (e.trans (congrArg not h)) rfl)
  · exact Exists.intro [] (ret_bool (e.trans (congrArg not h)) rfl)

def adds (b : List Bool) (l : List Eff) : List Int := (l.filter fun e => setHas b e.when_).map fun e => codeI e.lit
def setL (b : List Bool) (l : List Int) : List Bool := l.foldl (fun m x => m.set x.toNat true) b
def colN (b : List Bool) (x : Actn) : List Bool := setL b (adds b x.effs)
theorem setL_len (l : List Int) : ∀ b : List Bool, (setL b l).length = b.length := by
  induction l with
  | nil => intro b; rfl
  | cons x r ih => intro b; show (setL (b.set x.toNat true) r).length = _; rw [ih, List.length_set]
theorem setL_snoc (b : List Bool) (l : List Int) (x : Int) : setL b (l ++ [x]) = (setL b l).set x.toNat true := by simp [setL]
theorem adds_snoc (b : List Bool) (l : List Eff) (e : Eff) : adds b (l ++ [e]) = adds b l ++ (if setHas b e.when_ = true then [codeI e.lit] else []) := by
  unfold adds
  rw [List.filter_append, List.map_append]
  congr 1
  simp only [List.filter_cons, List.filter_nil]
  split <;> rfl
def kp42 : Kp := [(6, ([1, 8, 24, 25, 26], [1, 312])), (12, ([1, 41, 42, 43], [1, 312]))]
theorem f42_spec (t : Task) (ht : isB t = true) (b : List Bool) (n a : Nat) (x : Actn) (hb : b.length = 2 * t.facts.length) (hn : n = b.length) (ha : t.acts[a]? = some x) :
    SpecM Try.prog 42 [.task t, .osl (.cur 1) 1 0 n, .int a] [(1, .row 4 1 (b.map tB))] [(1, 1)] fun r ro => r = .bool (setHas b x.pre) ∧ ro = [(1, .row 4 1 ((if setHas b x.pre then colN b x else b).map tB))] := by
  subst hn
  have K := task_ok ht
  have hN := K.facts
  have hxm : x ∈ t.acts := List.mem_of_getElem? ha
  have hin : ∀ l : Lit, litIn t.facts.length l → inB b l := fun l h => h.inB hN hb
  have hA : (t.acts.map tAct)[((a : Int)).toNat]? = some (tAct x) := by rw [Int.toNat_natCast, List.getElem?_map, ha]; rfl
  have lend : b.map tB = ((b.map tB).drop 0).take b.length := by rw [List.drop_zero, List.take_of_length_le (by simp)]
  have lend2 : 0 + b.length ≤ (b.map tB).length := by simp
  refine specM_walk cxm_ok mH_ok kp42 [] (fn := Try.f42) (by kernel_rfl) rfl (by kernel_rfl) rfl (by unfold FnOK; kernel_rfl) rfl fun hok => ?_
  refine And.intro (by omega) (Exists.intro _ (And.intro hA ?_))
  refine Exists.intro _ (And.intro lend (And.intro lend2 ?_))
  refine SpecP.mono (f61_spec false x.pn b x.pre (fun l hl => hin l (K.pre x hxm l hl)) _) ?_
  rintro _ _ ⟨rfl, rfl⟩
  refine And.intro trivial (And.intro trivial ?_)
  cases hp : setHas b x.pre
  · refine And.intro (fun h => by cases h) fun _ => ?_
    exact ⟨rfl, [1], rfl, rfl⟩
  refine And.intro (fun _ => ?_) fun h => by cases h
  have hE := K.effs x hxm
  refine LoopX.mk (Nat × List Int) (fun p => p.1 ≤ x.effs.length ∧ p.2 = adds b (x.effs.take p.1)) (fun p => [(1, .osl (.cur 1) 1 0 b.length), (8, accV 312 1 (p.2.map tI)), (24, .t (.sl x.en 3 (x.effs.map tEff))), (25, .int (x.effs.map tEff).length), (26, .int p.1), (1000001, .osl (.cur 1) 1 0 0)])
    (fun p => ⟨[], (1, .row 4 1 (b.map tB)) :: accO 312 3 1 (p.2.map tI)⟩) (fun p => x.effs.length - p.1) (0, []) ⟨Nat.zero_le _, rfl⟩ ⟨rfl, rfl⟩ ?_
  rintro ⟨i, M⟩ ⟨hi0, hM⟩
  simp only at hi0 hM
  have hMl : M.length ≤ 100 := by
    rw [hM]; unfold adds; rw [List.length_map]
    exact Nat.le_trans (List.length_filter_le _ _) (by rw [List.length_take]; omega)
  cases M
  case' nil => let M2 : List Int := []
  case' cons y r => let M2 : List Int := y :: r
  all_goals
    refine And.intro (fun h1 => ?_) fun h1 => ?_
    · have hi : i < x.effs.length := lt_of_dec h1
      have hem : x.effs[i] ∈ x.effs := List.getElem_mem hi
      have hstep : adds b (x.effs.take (i + 1)) = M2 ++ (if setHas b x.effs[i].when_ = true then [codeI x.effs[i].lit] else []) := by
        rw [List.take_add_one, List.getElem?_eq_getElem hi]
        show adds b (x.effs.take i ++ [x.effs[i]]) = _
        rw [adds_snoc, ← hM]
      refine And.intro (by omega) (Exists.intro _ (And.intro (get_map hi) ?_))
      refine Exists.intro _ (And.intro lend (And.intro lend2 ?_))
      refine SpecP.mono (f61_spec false x.effs[i].nil b x.effs[i].when_ (fun l hl => hin l (K.whn x hxm _ hem l hl)) _) ?_
      rintro _ _ ⟨rfl, rfl⟩
      refine And.intro trivial (And.intro trivial ?_)
      refine And.intro (fun h2 => ?_) fun h2 => ?_
      · refine SpecP.mono (f29_spec x.effs[i].lit (big_in K (K.lit x hxm _ hem)) []) ?_
        rintro _ _ ⟨rfl, rfl⟩
        have hl4 : ∀ X : List T, ((M2.map tI).take (M2.map tI).length ++ [X]).length ≤ 100000 := fun X => by
          have h3 : M2.length ≤ 100 := hMl
          rw [List.take_length, List.length_append, List.length_map, List.length_singleton]; omega
        repeat first
          | refine And.intro (Nat.le_of_ble_eq_true rfl) ?_
          | refine And.intro (Nat.le_refl _) ?_
          | refine And.intro rfl ?_
          | refine And.intro (Nat.le_trans (Nat.mul_le_mul_right _ (hl4 _)) (Nat.le_of_ble_eq_true rfl)) ?_
          | refine And.intro (Nat.le_trans (hl4 _) (Nat.le_of_ble_eq_true rfl)) ?_
        refine And.intro (by show (-9223372036854775808 : Int) ≤ (i : Int) + 1; omega) (And.intro (by show (i : Int) + 1 ≤ 9223372036854775807; omega) ?_)
        have hnew : M2 ++ [codeI x.effs[i].lit] = adds b (x.effs.take (i + 1)) := by rw [hstep, if_pos h2]
        first
          | exact Exists.intro (i + 1, [codeI x.effs[i].lit]) (And.intro (by show x.effs.length - (i + 1) < x.effs.length - i; omega) (And.intro ⟨hi, hnew⟩ (And.intro rfl rfl)))
          | (refine Exists.intro (i + 1, y :: (r ++ [codeI x.effs[i].lit])) (And.intro (by show x.effs.length - (i + 1) < x.effs.length - i; omega) (And.intro ⟨hi, hnew⟩ ?_))
             have e1 : List.take (tI y :: List.map tI r).length (tI y :: List.map tI r) ++ [tI (codeI x.effs[i].lit)] = tI y :: List.map tI (r ++ [codeI x.effs[i].lit]) := by rw [List.take_length]; simp
             simp only [List.map_cons, ← e1]
             exact And.intro rfl rfl)
      · refine And.intro (by show (-9223372036854775808 : Int) ≤ (i : Int) + 1; omega) (And.intro (by show (i : Int) + 1 ≤ 9223372036854775807; omega) ?_)
        refine Exists.intro (i + 1, M2) (And.intro (by show x.effs.length - (i + 1) < x.effs.length - i; omega) (And.intro ⟨hi, ?_⟩ (And.intro rfl rfl)))
        show M2 = _
        rw [hstep, h2]; simp
    have hie : i = x.effs.length := by have := ge_of_dec h1; have : i ≤ x.effs.length := hi0; omega
    rw [hie, List.take_length] at hM
    have hcol : colN b x = setL b M2 := by rw [colN, ← hM]
    have hMin : ∀ z ∈ M2, 0 ≤ z ∧ z < b.length := fun z hz => by
      have hz2 : z ∈ adds b x.effs := by rw [← hM]; exact hz
      unfold adds at hz2
      obtain ⟨e, he, rfl⟩ := List.mem_map.1 hz2
      have := code_range (K.lit x hxm e (List.mem_filter.1 he).1)
      rw [hb]; omega
    have hM2l : M2.length ≤ 100 := hMl
    refine LoopX.mk Nat (fun j => j ≤ M2.length) (fun j => [(1, .osl (.cur 1) 1 0 b.length), (41, accV 312 1 (M2.map tI)), (42, .int (M2.map tI).length), (43, .int j), (1000001, .osl (.cur 1) 1 0 0)])
      (fun j => ⟨[], (1, .row 4 1 ((setL b (M2.take j)).map tB)) :: accO 312 3 1 (M2.map tI)⟩) (fun j => M2.length - j) 0 (Nat.zero_le _) ⟨rfl, rfl⟩ ?_
    intro j hj0
    refine And.intro (fun h3 => ?_) fun h3 => ?_
    · have hj : j < M2.length := by
        have h3' : (j : Int) < ((M2.map tI).length : Int) := of_decide_eq_true h3
        rw [List.length_map] at h3'; omega
      first
        | exact absurd hj (Nat.not_lt_zero j)
        | skip
      all_goals
        have hzr := hMin _ (List.getElem_mem hj)
        have hgm : (M2.map tI)[0 + ((j : Nat) : Int).toNat]? = some (tI M2[j]) := by rw [Nat.zero_add, Int.toNat_natCast, List.getElem?_map, List.getElem?_eq_getElem hj]; rfl
        have hlb : (setL b (M2.take j)).length = b.length := setL_len _ _
        have hel : ∃ y : Bool, ((setL b (M2.take j)).map tB)[0 + (M2[j]).toNat]? = some (tB y) := by
          have hlt : (M2[j]).toNat < (setL b (M2.take j)).length := by rw [hlb]; omega
          exact ⟨_, by rw [Nat.zero_add, List.getElem?_map, List.getElem?_eq_getElem hlt]; rfl⟩
        obtain ⟨y0, hy0⟩ := hel
        refine And.intro (by omega) (And.intro (of_decide_eq_true h3) (Exists.intro _ (And.intro hgm ?_)))
        refine And.intro hzr.1 (And.intro hzr.2 (Exists.intro _ (And.intro hy0 (And.intro (Nat.le_refl 1) ?_))))
        refine And.intro (by omega) (And.intro (by omega) ?_)
        refine Exists.intro (j + 1) (And.intro (by show M2.length - (j + 1) < M2.length - j; omega) (And.intro hj (And.intro rfl ?_)))
        show _ = (⟨[], (1, .row 4 1 ((setL b (M2.take (j + 1))).map tB)) :: accO 312 3 1 (M2.map tI)⟩ : St)
        have e : (setL b (M2.take (j + 1))).map tB = ((setL b (M2.take j)).map tB).set (0 + (M2[j]).toNat) (tB true) := by
          rw [List.take_add_one, List.getElem?_eq_getElem hj]
          show List.map tB (setL b (M2.take j ++ [M2[j]])) = _
          rw [setL_snoc, Nat.zero_add, map_set']
        rw [e]; rfl
    · have hje : j = M2.length := by
        have h3' : ¬ (j : Int) < ((M2.map tI).length : Int) := of_decide_eq_false h3
        rw [List.length_map] at h3'
        have : j ≤ M2.length := hj0
        omega
      have hfin : setL b (M2.take j) = colN b x := by rw [hje, List.take_length, hcol]
      refine ⟨rfl, [1], rfl, ?_⟩
      show [(1, Ob.row 4 1 ((setL b (M2.take j)).map tB))] = _
      rw [hfin]; rfl

end Go.Fw

/- What the program's functions do: lists of actions in the relaxation. -/
namespace Go.Fw
open Go Go.Proofs Heap
set_option maxRecDepth 10000

def runB (t : Task) : List Bool → List Int → Option (List Bool)
  | b, [] => some b
  | b, a :: p => match t.acts[a.toNat]? with
    | some x => if setHas b x.pre then runB t (colN b x) p else none
    | none => none
theorem runB_cons (t : Task) (b : List Bool) (a : Int) (p : List Int) : runB t b (a :: p) = (match t.acts[a.toNat]? with | some x => if setHas b x.pre then runB t (colN b x) p else none | none => none) := rfl
theorem runB_app (t : Task) : ∀ (p q : List Int) (b : List Bool), runB t b (p ++ q) = (match runB t b p with | some b' => runB t b' q | none => none)
  | [], q, b => rfl
  | a :: p, q, b => by
    rw [List.cons_append, runB_cons, runB_cons]
    cases t.acts[a.toNat]? with
    | none => rfl
    | some x =>
      simp only
      split
      · exact runB_app t p q _
      · rfl
theorem colN_len (b : List Bool) (x : Actn) : (colN b x).length = b.length := setL_len _ _
theorem runB_len (t : Task) : ∀ (p : List Int) (b b' : List Bool), runB t b p = some b' → b'.length = b.length
  | [], b, b', h => by cases h; rfl
  | a :: p, b, b', h => by
    unfold runB at h
    split at h
    · split at h
      · rw [runB_len t p _ _ h, colN_len]
      · cases h
    · cases h
def iniB (t : Task) (s : List Int) : List Bool := (List.range (2 * t.facts.length)).map (holdsL s)
theorem ini_eq {t : Task} {s : List Int} {b : List Bool} (h : Ini t.facts.length s b) : b = iniB t s := by
  refine List.ext_getElem (by simp [iniB, h.1]) fun k hk hk' => ?_
  have := h.2 k (by rw [← h.1]; exact hk)
  simp only [List.getD_eq_getElem?_getD, List.getElem?_eq_getElem hk, Option.getD_some] at this
  rw [this]; simp [iniB, holdsL]
def takesB (t : Task) (s : List Int) (p : List Int) (l : List Lit) : Bool := match runB t (iniB t s) p with
  | some b => setHas b l
  | none => false
theorem plan_in {t : Task} {p : List Int} (h : planB t p = true) : ∀ x ∈ p, 0 ≤ x ∧ x < t.acts.length := fun x hx => by
  simp only [planB, Bool.and_eq_true] at h
  have := List.all_eq_true.1 h.2 x hx
  simpa using this
def kp38 : Kp := [(3, ([3, 4, 9, 15, 16, 17], [32, 113000443]))]
theorem f38_spec (t : Task) (n1 n2 n3 : Bool) (s p : List Int) (l : List Lit) (ht : isB t = true) (hs : risingB s t.facts.length = true) (hp : ∀ x ∈ p, 0 ≤ x ∧ x < (t.acts.length : Int)) (hl : ∀ x ∈ l, litIn t.facts.length x) (hpl : p.length ≤ 1000000000) (out : List Fr) :
    SpecP Try.prog 38 [.task t, .ints n1 s, .ints n2 p, .lits n3 l] out fun r ro => r = .bool (takesB t s p l) ∧ ro = [] := by
  refine spec_walkH cxm_ok mH_ok kp38 [] (fn := Try.f38) (by kernel_rfl) rfl (by kernel_rfl) rfl (by unfold FnOK; kernel_rfl) fun hok => ?_
  have K := task_ok ht
  have hN := K.facts
  refine SpecP.mono (f41_spec t n1 s ht hs []) ?_
  rintro _ _ ⟨b0, hb0, rfl, rfl⟩
  have hb0e := ini_eq hb0
  refine LoopX.mk (Nat × (List Bool × List Fr)) (fun q => q.1 ≤ p.length ∧ runB t b0 (p.take q.1) = some q.2.1 ∧ q.2.1.length = b0.length) (fun q => [(3, .lits n3 l), (4, .ptr (.cur 32) 0), (9, .osl (.cur 113000443) 1 0 b0.length), (15, .ints n2 p), (16, .int (p.map tI).length), (17, .int q.1)])
    (fun q => ⟨q.2.2, [(32, .box (cellsTask t)), (113000443, .row 4 1 (q.2.1.map tB))]⟩) (fun q => p.length - q.1) (0, b0, out) ⟨Nat.zero_le _, rfl, rfl⟩ ⟨rfl, rfl⟩ ?_
  rintro ⟨i, b, o⟩ ⟨hi0, hr, hbl⟩
  simp only at hi0 hr hbl
  refine And.intro (fun h1 => ?_) fun h1 => ?_
  · have hi : i < p.length := lt_of_dec h1
    have hpi := hp _ (List.getElem_mem hi)
    have hlt : (p[i]).toNat < t.acts.length := by omega
    obtain ⟨x, hx⟩ : ∃ x, t.acts[(p[i]).toNat]? = some x := ⟨t.acts[(p[i]).toNat], List.getElem?_eq_getElem hlt⟩
    have hpe : p[i] = (((p[i]).toNat : Nat) : Int) := by omega
    have hgp : (p.map tI)[((i : Nat) : Int).toNat]? = some (tI (((p[i]).toNat : Nat) : Int)) := by rw [← hpe]; exact get_map hi
    have hstep : runB t b0 (p.take (i + 1)) = if setHas b x.pre then some (colN b x) else none := by
      rw [List.take_add_one, List.getElem?_eq_getElem hi]
      show runB t b0 (p.take i ++ [p[i]]) = _
      rw [runB_app, hr]
      show runB t b [p[i]] = _
      unfold runB
      rw [hx]; rfl
    have hspec := f42_spec t ht b b0.length (p[i]).toNat x (by rw [hbl]; exact hb0.1) hbl.symm hx
    refine And.intro (by omega) (Exists.intro _ (And.intro hgp ?_))
    refine ModH.mk [(1, 113000443)] hspec rfl rfl ⟨rfl, trivial⟩ ?_
    rintro _ _ ⟨rfl, rfl⟩
    refine And.intro rfl ?_
    cases hpre : setHas b x.pre
    · refine And.intro (fun h => by cases h) fun _ => ?_
      refine Exists.intro [] (ret_bool ?_ rfl)
      have hno : runB t (iniB t s) p = none := by
        rw [← hb0e, ← List.take_append_drop (i + 1) p, runB_app, hstep, hpre]; rfl
      unfold takesB; rw [hno]
    · refine And.intro (fun _ => ?_) fun h => by cases h
      refine And.intro (by omega) (And.intro (by omega) ?_)
      exact Exists.intro (i + 1, colN b x, []) (And.intro (by show p.length - (i + 1) < p.length - i; omega) (And.intro ⟨hi, by show runB t b0 (p.take (i + 1)) = some (colN b x); rw [hstep, hpre]; rfl, by rw [colN_len]; exact hbl⟩ (And.intro rfl rfl)))
  · have hi : i = p.length := by have := ge_of_dec h1; have : i ≤ p.length := hi0; omega
    rw [hi, List.take_length] at hr
    have lend : b.map tB = ((b.map tB).drop 0).take b0.length := by rw [List.drop_zero, List.take_of_length_le (by simp [hbl])]
    have lend2 : 0 + b0.length ≤ (b.map tB).length := by simp [hbl]
    refine Exists.intro _ (And.intro lend (And.intro lend2 ?_))
    refine SpecP.mono (f61_spec false n3 b l (fun x hx => (hl x hx).inB hN (by rw [hbl]; exact hb0.1)) _) ?_
    rintro _ _ ⟨rfl, rfl⟩
    refine And.intro trivial (And.intro trivial ?_)
    have e : takesB t s p l = setHas b l := by unfold takesB; rw [← hb0e, hr]
    refine And.intro (fun h => ?_) fun h => ?_
    · exact Exists.intro [] (ret_bool (e.trans h) rfl)
    · exact Exists.intro [] (ret_bool (e.trans h) rfl)
theorem f13_spec (t : Task) (n1 n2 n3 : Bool) (s p : List Int) (l : List Lit) (out : List Fr) : SpecP Try.prog 13 [.task t, .ints n1 s, .ints n2 p, .lits n3 l] out fun r ro =>
    r = (if askI t s l ≠ 0 then .tup [.bool false, .int (askI t s l)] else if planB t p = true then .tup [.bool (takesB t s p l), .int 0] else .tup [.bool false, .int 1]) ∧ ro = [] := by
  refine spec_body cx_ok [] [] (fn := Try.f13) (by kernel_rfl) rfl (by kernel_rfl) rfl (by unfold FnOK; kernel_rfl) fun hok => ?_
  refine SpecP.mono (f26_spec t n1 n3 s l []) ?_
  rintro _ _ ⟨rfl, rfl⟩
  refine And.intro (fun h => ?_) fun h => ?_
  · have h0 : askI t s l ≠ 0 := by simpa using h
    exact Exists.intro [] ⟨by rw [if_pos h0]; rfl, rfl⟩
  have h0 : askI t s l = 0 := by simpa using h
  obtain ⟨hf, hl⟩ := ask_zero h0
  obtain ⟨ht, hs⟩ := fine_zero hf
  refine SpecP.mono (f37_spec t n2 p []) ?_
  rintro _ _ ⟨rfl, rfl⟩
  cases hp : planB t p
  · refine And.intro (fun h => by cases h) fun _ => ?_
    exact Exists.intro [] ⟨by rw [if_neg (by rw [h0]; simp)]; rfl, rfl⟩
  refine And.intro (fun _ => ?_) fun h => by cases h
  have hpl : p.length ≤ 1000000000 := by simp only [planB, Bool.and_eq_true, decide_eq_true_eq] at hp; omega
  refine SpecP.mono (f38_spec t n1 n2 n3 s p l ht hs (plan_in hp) hl hpl []) ?_
  rintro _ _ ⟨rfl, rfl⟩
  refine And.intro (fun h => ?_) fun h => ?_
  · exact Exists.intro [] ⟨by rw [if_neg (by rw [h0]; simp), if_pos rfl, h]; rfl, rfl⟩
  · exact Exists.intro [] ⟨by rw [if_neg (by rw [h0]; simp), if_pos rfl, h]; rfl, rfl⟩

end Go.Fw

/- What the program's functions do: what a relaxed plan needs. -/
namespace Go.Fw
open Go Go.Proofs Heap
set_option maxRecDepth 10000

/-- What is needed for a literal is needed, too. -/
def NClo (t : Task) (s : List Int) (d : Dj) (need : List Bool) (k : Nat) : Prop := ∀ (i : Nat) (r : Rule), ev d.by_ k = (i : Int) → (epOf t s).rules[i]? = some r → ∀ y ∈ r.frm, need.getD y false = true
structure Mk (t : Task) (s : List Int) (d : Dj) (need need' : List Bool) : Prop where
  len : need'.length = need.length
  mono : ∀ k, need.getD k false = true → need'.getD k false = true
  clo : ∀ k, need'.getD k false = true → need.getD k false = true ∨ (0 ≤ ev d.v k ∧ NClo t s d need' k)
theorem NClo.mono {t s d need need' k} (h : NClo t s d need k) (hm : ∀ k, need.getD k false = true → need'.getD k false = true) : NClo t s d need' k := fun i r h1 h2 y hy => hm y (h i r h1 h2 y hy)
theorem Mk.trans {t s d a b c} (h1 : Mk t s d a b) (h2 : Mk t s d b c) : Mk t s d a c :=
  ⟨h2.len.trans h1.len, fun k hk => h2.mono k (h1.mono k hk), fun k hk => by
    rcases h2.clo k hk with h | h
    · rcases h1.clo k h with h | h
      · exact .inl h
      · exact .inr ⟨h.1, h.2.mono h2.mono⟩
    · exact .inr h⟩
theorem Mk.refl {t s d} (a : List Bool) : Mk t s d a a := ⟨rfl, fun _ h => h, fun _ h => .inl h⟩

/-- What is known of a literal that is reached. -/
theorem EstOK.rule {t : Task} {s : List Int} {add : Bool} {d : Dj} (h : EstOK t s add d) {k : Nat} (hk : 0 ≤ ev d.v k) :
    (ev d.by_ k = -1 ∧ holdsL s k = true) ∨ ∃ (i : Nat) (r : Rule), (epOf t s).rules[i]? = some r ∧ ev d.by_ k = (i : Int) ∧ r.to = k ∧ ∀ y ∈ r.frm, 0 ≤ ev d.v y := by
  obtain ⟨j, hj⟩ := List.mem_iff_getElem?.1 ((h.mem k).2 hk)
  obtain ⟨k', e1, _, e3⟩ := h.why j _ hj
  have : k' = k := by omega
  subst this
  rcases e3 with e3 | ⟨i, r, f1, f2, f3, f4⟩
  · exact .inl e3
  · exact .inr ⟨i, r, f1, f2, f3, fun y hy => (h.mem y).1 (List.mem_of_mem_take (f4 y hy))⟩

theorem count_false_le {a b : List Bool} (hl : b.length = a.length) (h : ∀ k, a.getD k false = true → b.getD k false = true) : b.count false ≤ a.count false := by
  induction a generalizing b with
  | nil => have : b = [] := List.eq_nil_of_length_eq_zero hl; subst this; exact Nat.le_refl _
  | cons x r ih =>
    cases b with
    | nil => simp at hl
    | cons y q =>
      have h0 := h 0
      have hr := ih (b := q) (by simpa using hl) fun k hk => by have := h (k + 1); simpa using this (by simpa using hk)
      simp only [List.count_cons]
      cases x <;> cases y <;> simp at h0 ⊢ <;> omega
abbrev markV : LV := .fn 40 [(.cur 41, 0), (.cur 43, 0), (.cur 44, 0), (.cur 45, 0)]
abbrev frN (t : Task) (n : Nat) (d : Dj) (need : List Bool) : Fr := [(41, .box [.osl (.cur 42) 1 0 n]), (42, .row 4 1 (need.map tB)), (43, .box [.ints false d.v, .ints false d.by_, .ints d.order.isEmpty d.order]), (44, .box [.t (.sl (rulesX t).isEmpty 3 ((rulesX t).map tRY))]), (45, .box [markV])]
abbrev pinsN : List (Nat × Nat) := [(41, 1), (43, 1), (44, 1), (45, 1)]
def kp40 : Kp := [(5, ([4, 27, 28, 29], [41, 42, 43, 44, 45]))]
theorem getB {b : List Bool} {k : Nat} (h : k < b.length) : (b.map tB)[0 + ((k : Int)).toNat]? = some (tB (b.getD k false)) := by
  rw [Nat.zero_add, Int.toNat_natCast, List.getElem?_map, List.getElem?_eq_getElem h]; simp [h]
theorem setB {b : List Bool} {k : Nat} {x : Bool} : (b.map tB).set (0 + ((k : Int)).toNat) (tB x) = (b.set k x).map tB := by
  rw [Nat.zero_add, Int.toNat_natCast, List.map_set]
set_option maxHeartbeats 1000000 in
theorem f40_spec (t : Task) (s : List Int) (ht : isB t = true) (n : Nat) (d : Dj) (hn : n = 2 * t.facts.length) (hd : EstOK t s false d) : ∀ (c : Nat) (need : List Bool) (k : Nat), need.length = n → need.count false ≤ c → 0 ≤ ev d.v k → k < n →
    SpecM Try.prog 40 [.int k, .ptr (.cur 41) 0, .ptr (.cur 43) 0, .ptr (.cur 44) 0, .ptr (.cur 45) 0] (frN t n d need) pinsN fun r ro => ∃ need', r = .tup [] ∧ ro = frN t n d need' ∧ Mk t s d need need' ∧ need'.getD k false = true := by
  intro c
  induction c with
  | zero =>
    intro need k hnl hc hv hk
    have hall : need.getD k false = true := by
      cases hh : need.getD k false with
      | true => rfl
      | false =>
        have hlt : k < need.length := by omega
        have : 0 < need.count false := List.count_pos_iff.2 (by
          rw [List.getD_eq_getElem?_getD, List.getElem?_eq_getElem hlt] at hh
          have hh' : need[k] = false := hh
          exact hh' ▸ List.getElem_mem hlt)
        omega
    refine specM_walk cxm_ok mH_ok kp40 [] (fn := Try.f40) (by kernel_rfl) rfl (by kernel_rfl) rfl (by unfold FnOK; kernel_rfl) rfl fun hok => ?_
    refine And.intro (by omega) (And.intro (by omega) (Exists.intro _ (And.intro (getB (by omega)) ?_)))
    rw [hall]
    refine And.intro (fun _ => ?_) fun h => by cases h
    exact ⟨rfl, [41, 42, 43, 44, 45], need, rfl, rfl, Mk.refl _, hall⟩
  | succ c ih =>
    intro need k hnl hc hv hk
    refine specM_walk cxm_ok mH_ok kp40 [] (fn := Try.f40) (by kernel_rfl) rfl (by kernel_rfl) rfl (by unfold FnOK; kernel_rfl) rfl fun hok => ?_
    refine And.intro (by omega) (And.intro (by omega) (Exists.intro _ (And.intro (getB (by omega)) ?_)))
    refine And.intro (fun h1 => ?_) fun h1 => ?_
    · exact ⟨rfl, [41, 42, 43, 44, 45], need, rfl, rfl, Mk.refl _, h1⟩
    refine And.intro (by omega) (And.intro (by omega) (Exists.intro _ (And.intro (getB (by omega)) (And.intro (Nat.le_refl 1) ?_))))
    have hkl : k < need.length := by omega
    have h1l : (need.set k true).length = n := by rw [List.length_set]; exact hnl
    have h1c : (need.set k true).count false ≤ c := by have := falses_set hkl h1; omega
    have h1m : ∀ q, need.getD q false = true → (need.set k true).getD q false = true := fun q hq => getD_set_true hq
    have h1k : (need.set k true).getD k false = true := by rw [getD_set hkl, if_pos rfl]
    have h1o : ∀ q, (need.set k true).getD q false = true → need.getD q false = true ∨ q = k := fun q hq => by
      rw [getD_set hkl] at hq
      split at hq
      · rename_i he; exact .inr he.symm
      · exact .inl hq
    have hby : k < d.by_.length := by rw [hd.lby, ← hn]; exact hk
    have hgb : (d.by_.map tI)[((k : Int)).toNat]? = some (tI (ev d.by_ k)) := by
      have := getI hby
      rw [Nat.zero_add] at this; exact this
    refine And.intro (by omega) (Exists.intro _ (And.intro hgb ?_))
    rcases hd.rule hv with ⟨b1, b2⟩ | ⟨i, r, r1, r2, r3, r4⟩
    · rw [b1]
      refine And.intro (fun h => absurd h (by decide)) fun _ => ?_
      refine ⟨rfl, [41, 42, 43, 44, 45], need.set k true, rfl, ?_, ⟨by rw [List.length_set], h1m, fun q hq => ?_⟩, h1k⟩
      · show [(41, Ob.box [.osl (.cur 42) 1 0 n]), (42, .row 4 1 ((need.map tB).set (0 + ((k : Int)).toNat) (tB true))), _, _, _] = _
        rw [setB]
      · rcases h1o q hq with h | h
        · exact .inl h
        · subst h
          exact .inr ⟨hv, fun i r h1 _ => by rw [b1] at h1; omega⟩
    · have hiR : i < (rulesX t).length := by
        have := (List.getElem?_eq_some_iff.1 r1).1
        simpa [epOf] using this
      obtain ⟨a, kk, fr, xa, R⟩ := rule_at ht s hiR
      have hre : r = ⟨a, kk, fr, xa.cost⟩ := Option.some.inj (r1.symm.trans R.re)
      subst hre
      have hget : ((rulesX t).map tRY)[((i : Int)).toNat]? = some (tRY ⟨(a : Int), (kk : Int), fr.map Int.ofNat⟩) := by rw [Int.toNat_natCast, List.getElem?_map, R.rx]; rfl
      have hfm : ((fr.map Int.ofNat).map tI).length = fr.length := by simp
      have hfl2 : fr.length ≤ 2000000000 := by
        have hsub : fr.length ≤ (List.range (2 * t.facts.length)).length := List.Nodup.length_le_of_subset R.nd fun y hy => List.mem_range.2 (R.frm y hy)
        rw [List.length_range] at hsub; have := (task_ok ht).facts; omega
      rw [r2]
      refine And.intro (fun _ => ?_) fun h => absurd h (by simp)
      refine And.intro (by omega) (Exists.intro _ (And.intro hget ?_))
      refine LoopX.mk (Nat × List Bool) (fun p => p.1 ≤ fr.length ∧ p.2.length = n ∧ Mk t s d (need.set k true) p.2 ∧ ∀ y ∈ fr.take p.1, p.2.getD y false = true)
        (fun p => [(4, .ptr (.cur 45) 0), (27, .t (.sl (fr.map Int.ofNat).isEmpty 1 ((fr.map Int.ofNat).map tI))), (28, .int ((fr.map Int.ofNat).map tI).length), (29, .int p.1), (1000041, .osl (.cur 41) 1 0 0), (1000043, .osl (.cur 43) 1 0 0), (1000044, .osl (.cur 44) 1 0 0), (1000045, .osl (.cur 45) 1 0 0)])
        (fun p => ⟨[], frN t n d p.2⟩) (fun p => fr.length - p.1) (0, need.set k true) ⟨Nat.zero_le _, h1l, Mk.refl _, fun y hy => by simp at hy⟩ ⟨rfl, ?_⟩ ?_
      · show _ = (⟨[], frN t n d (need.set k true)⟩ : St)
        simp only [frN, ← setB]
        rfl
      rintro ⟨j, nd⟩ ⟨hj0, hndl, hmk, hall⟩
      simp only at hj0 hndl hmk hall
      refine And.intro (fun h2 => ?_) fun h2 => ?_
      · have hj : j < fr.length := by
          have h2' : (j : Int) < (((fr.map Int.ofNat).map tI).length : Int) := of_decide_eq_true h2
          rw [hfm] at h2'; omega
        have hgj : ((fr.map Int.ofNat).map tI)[((j : Int)).toNat]? = some (tI (fr[j] : Nat)) := by rw [Int.toNat_natCast, List.getElem?_map, List.getElem?_map, List.getElem?_eq_getElem hj]; rfl
        have hfm2 : fr[j] ∈ fr := List.getElem_mem hj
        have hcc : nd.count false ≤ c := by
          refine Nat.le_trans ?_ h1c
          exact count_false_le (hndl.trans h1l.symm) hmk.mono
        refine And.intro (by omega) (Exists.intro _ (And.intro hgj ?_))
        refine ModH.mk [(41, 41), (42, 42), (43, 43), (44, 44), (45, 45)] (ih nd fr[j] hndl hcc (r4 _ hfm2) (by rw [hn]; exact R.frm _ hfm2)) rfl rfl (by repeat (first | exact trivial | refine And.intro rfl ?_)) ?_
        rintro _ _ ⟨nd', rfl, rfl, hmk', hk'⟩
        refine And.intro rfl ?_
        refine And.intro (by omega) (And.intro (by omega) ?_)
        refine Exists.intro (j + 1, nd') (And.intro (by show fr.length - (j + 1) < fr.length - j; omega) (And.intro ⟨hj, hmk'.len.trans hndl, hmk.trans hmk', fun y hy => ?_⟩ (And.intro rfl rfl)))
        rw [List.take_add_one, List.getElem?_eq_getElem hj] at hy
        rcases List.mem_append.1 hy with hy | hy
        · exact hmk'.mono y (hall y hy)
        · simp at hy; subst hy; exact hk'
      · have hje : j = fr.length := by
          have h2' : ¬ (j : Int) < (((fr.map Int.ofNat).map tI).length : Int) := of_decide_eq_false h2
          rw [hfm] at h2'; omega
        rw [hje, List.take_length] at hall
        refine ⟨rfl, [41, 42, 43, 44, 45], nd, rfl, rfl, ⟨hndl.trans hnl.symm, fun q hq => hmk.mono q (h1m q hq), fun q hq => ?_⟩, hmk.mono k h1k⟩
        have hclo : NClo t s d nd k := fun i' r' h1 h2 y hy => by
          rw [r2] at h1
          have : i' = i := by omega
          subst this
          rw [r1] at h2; cases h2
          exact hall y hy
        rcases hmk.clo q hq with h | h
        · rcases h1o q h with h | h
          · exact .inl h
          · subst h; exact .inr ⟨hv, hclo⟩
        · exact .inr h

end Go.Fw

/- What the program's functions do: relaxed plans. -/
namespace Go.Fw
open Go Go.Proofs Heap
set_option maxRecDepth 10000

/-- What a relaxed plan is. -/
structure PlanOK (t : Task) (s : List Int) (d : Dj) (l : List Lit) (p : List Int) : Prop where
  acts : ∀ x ∈ p, 0 ≤ x ∧ x < (t.acts.length : Int)
  takes : takesB t s p l = true
  len : p.length ≤ (litsOf d.v (2 * t.facts.length)).length
def od14 : Od := [(4, [(0, .tree (.pure 0 (.pure 1 (.pure 3 (.fork 2 (.fork 4 (.fork 5 (.eff 6 (.last 7 (.last 8 .done []) [])) [0, 1, 3] (.last 6 (.eff 5 (.last 7 (.last 8 .done []) [])) [0, 1, 3])) [] (.fork 5 (.fork 4 (.eff 6 (.last 7 (.last 8 .done []) [])) [] (.last 6 (.last 4 (.last 7 (.last 8 .done []) []) []) [0, 1, 3])) [0, 1, 3] (.last 6 (.fork 4 (.eff 5 (.last 7 (.last 8 .done []) [])) [] (.last 5 (.last 4 (.last 7 (.last 8 .done []) []) []) [0, 1, 3])) [0, 1, 3]))) [3] (.fork 5 (.fork 2 (.fork 4 (.eff 6 (.last 7 (.last 8 .done []) [])) [] (.last 6 (.last 4 (.last 7 (.last 8 .done []) []) []) [0, 1, 3])) [3] (.last 6 (.last 2 (.last 4 (.last 7 (.last 8 .done []) []) []) [3]) [0, 1, 3])) [0, 1, 3] (.last 6 (.fork 2 (.fork 4 (.eff 5 (.last 7 (.last 8 .done []) [])) [] (.last 5 (.last 4 (.last 7 (.last 8 .done []) []) []) [0, 1, 3])) [3] (.last 5 (.last 2 (.last 4 (.last 7 (.last 8 .done []) []) []) [3]) [0, 1, 3])) [0, 1, 3])))))))]), (11, [(0, .tree (.pure 0 (.pure 1 (.pure 2 (.last 3 (.pure 4 (.pure 5 (.pure 6 .done))) [0, 1])))))]), (13, [(0, .tree (.pure 0 (.pure 1 (.last 2 (.last 3 .done []) [0]))))]), (23, [(0, .tree (.pure 0 (.pure 1 (.pure 2 (.pure 3 (.pure 4 (.pure 5 (.pure 6 (.last 7 .done [2, 3])))))))))])]
def kp14 : Kp := [(5, ([1, 2, 3, 10, 11], [0, 24, 80, 88])), (9, ([1, 3, 10, 11, 12, 13, 38, 39, 40], [24, 80, 88, 288, 96, 104])), (18, ([3, 10, 11, 12, 16, 17, 60, 61, 62], [24, 80, 88, 288, 96, 744, 465001499]))]
theorem setL_mono (l : List Int) : ∀ (b : List Bool) {q : Nat}, b.getD q false = true → (setL b l).getD q false = true := by
  induction l with
  | nil => intro b q h; exact h
  | cons x r ih => intro b q h; exact ih _ (getD_set_true h)
theorem setL_get {l : List Int} {b : List Bool} {x : Int} {q : Nat} (h : x ∈ l) (hx : x.toNat = q) (hq : q < b.length) : (setL b l).getD q false = true := by
  induction l generalizing b with
  | nil => cases h
  | cons y r ih =>
    rcases List.mem_cons.1 h with rfl | h
    · exact setL_mono r (b.set x.toNat true) (by rw [getD_set (by omega), if_pos hx])
    · exact ih h (by rw [List.length_set]; exact hq)
abbrev frP (t : Task) (n : Nat) (d : Dj) (need : List Bool) : Fr := [(24, .box (cellsTask t)), (80, .box [.ints false d.v, .ints false d.by_, .ints d.order.isEmpty d.order]), (88, .box [.t (.sl (rulesX t).isEmpty 3 ((rulesX t).map tRY))]), (288, .row 4 1 (need.map tB)), (96, .box [.osl (.cur 288) 1 0 n])]
abbrev ρN : Ren := [(41, 96), (42, 288), (43, 80), (44, 88), (45, 104)]
abbrev restP (k : Nat) (env : Env) (st : St) (Q : Exit → Env → St → Prop) : Prop := CutX (fun env st => wpcX cxm Try.prog noY (modH Try.prog) 0 kp14 od14 (tailC k (Try.f14.body.get!)) env st Q) env st
abbrev PostP (t : Task) (s : List Int) (l : List Lit) : LV → Fr → Prop := fun r ro => (askI t s l ≠ 0 ∧ r = .tup [.t (.sl true 0 []), .bool false, .int (askI t s l)] ∧ ro = []) ∨ (askI t s l = 0 ∧ ∃ d, EstOK t s false d ∧
      ((gotB d.v l = false ∧ r = .tup [.t (.sl true 0 []), .bool false, .int 0] ∧ ro = []) ∨ (gotB d.v l = true ∧ ∃ p, PlanOK t s d l p ∧ r = .tup [accV 744 1 (p.map tI), .bool true, .int 0] ∧ ro = accO 744 3 1 (p.map tI))))
set_option maxHeartbeats 4000000 in
theorem f14_spec (t : Task) (n1 n2 : Bool) (s : List Int) (l : List Lit) (hll : l.length ≤ 1000000000) (out : List Fr) : SpecP Try.prog 14 [.task t, .ints n1 s, .lits n2 l] out (PostP t s l) := by
  refine spec_walkH cxm_ok mH_ok kp14 od14 (fn := Try.f14) (by kernel_rfl) rfl (by kernel_rfl) rfl (by unfold FnOK; kernel_rfl) fun hok => ?_
  refine SpecP.mono (f26_spec t n1 n2 s l []) ?_
  rintro _ _ ⟨rfl, rfl⟩
  refine And.intro (fun h => ?_) fun h => ?_
  · have h0 : askI t s l ≠ 0 := by simpa using h
    exact Exists.intro [] (.inl ⟨h0, rfl, rfl⟩)
  have h0 : askI t s l = 0 := by simpa using h
  obtain ⟨hf, hl⟩ := ask_zero h0
  obtain ⟨ht, hs⟩ := fine_zero hf
  have K := task_ok ht
  have hN := K.facts
  have rest : ∀ d, EstOK t s false d → restP 3 [(1, .ints n1 s), (2, .lits n2 l), (3, .ptr (.cur 24) 0), (10, .ptr (.cur 80) 0), (11, .ptr (.cur 88) 0)]
      ⟨out, [(24, .box (cellsTask t)), (80, .box [.ints false d.v, .ints false d.by_, .ints d.order.isEmpty d.order]), (88, .box [.t (.sl (rulesX t).isEmpty 3 ((rulesX t).map tRY))])]⟩ (retW cxm Try.f14.results.toList (PostP t s l)) := by
    intro d hd
    refine CutX.mk ?_
    have hlen : d.v.length = 2 * t.facts.length := hd.est.len
    have hlm : (d.v.map tI).length = 2 * t.facts.length := by rw [List.length_map]; exact hlen
    refine And.intro rfl (And.intro (by omega) (And.intro (by show (((d.v.map tI).length : Nat) : Int) * ((1 : Nat) : Int) ≤ 140737488355328; omega) (And.intro (by omega) ?_)))
    refine LoopX.mk (Nat × (List Bool × List Fr)) (fun p => p.1 ≤ l.length ∧ p.2.1.length = (d.v.map tI).length ∧ gotB d.v (l.take p.1) = true ∧ (∀ k, p.2.1.getD k false = true → 0 ≤ ev d.v k ∧ NClo t s d p.2.1 k) ∧ ∀ x ∈ l.take p.1, p.2.1.getD (codeN x) false = true)
      (fun p => [(1, .ints n1 s), (3, .ptr (.cur 24) 0), (10, .ptr (.cur 80) 0), (11, .ptr (.cur 88) 0), (12, .ptr (.cur 96) 0), (13, .ptr (.cur 104) 0), (38, .lits n2 l), (39, .int (l.map tLit).length), (40, .int p.1)])
      (fun p => ⟨p.2.2, frP t (d.v.map tI).length d p.2.1 ++ [(104, .box [.fn 40 [(.cur 96, 0), (.cur 80, 0), (.cur 88, 0), (.cur 104, 0)]])]⟩) (fun p => l.length - p.1) (0, List.replicate (d.v.map tI).length false, out)
      ⟨Nat.zero_le _, by simp, rfl, fun k hk => ?_, fun x hx => by simp at hx⟩ ⟨rfl, ?_⟩ ?_
    · rw [List.getD_eq_getElem?_getD, List.getElem?_replicate] at hk
      split at hk <;> cases hk
    · show _ = (⟨out, frP t (d.v.map tI).length d (List.replicate (d.v.map tI).length false) ++ [(104, .box [.fn 40 [(.cur 96, 0), (.cur 80, 0), (.cur 88, 0), (.cur 104, 0)]])]⟩ : St)
      simp only [frP, List.map_replicate]
      rfl
    rintro ⟨i, need, o⟩ ⟨hi0, hnl, hg, hclo, hmem⟩
    simp only at hi0 hnl hg hclo hmem
    refine And.intro (fun h1 => ?_) fun h1 => ?_
    · have hi : i < l.length := lt_of_dec h1
      have hin := hl _ (List.getElem_mem hi)
      have hcr := code_range hin
      have hkv : codeN l[i] < d.v.length := by rw [hlen]; unfold codeN; omega
      have hgv : (d.v.map tI)[(codeI l[i]).toNat]? = some (tI (ev d.v (codeN l[i]))) := by
        have := getI hkv
        rw [Nat.zero_add, Int.toNat_natCast] at this; exact this
      refine And.intro (by omega) (Exists.intro _ (And.intro (get_map hi) ?_))
      refine SpecP.mono (f29_spec l[i] (big_in K hin) []) ?_
      rintro _ _ ⟨rfl, rfl⟩
      repeat (refine And.intro rfl ?_)
      refine And.intro hcr.1 (Exists.intro _ (And.intro hgv ?_))
      refine And.intro (fun h2 => ?_) fun h2 => ?_
      · have h2' : ev d.v (codeN l[i]) < 0 := of_decide_eq_true h2
        exact Exists.intro [] (.inr ⟨h0, d, hd, .inl ⟨got_false hi h2', rfl, rfl⟩⟩)
      have h2' : ¬ ev d.v (codeN l[i]) < 0 := of_decide_eq_false h2
      refine SpecP.mono (f29_spec l[i] (big_in K hin) []) ?_
      rintro _ _ ⟨rfl, rfl⟩
      repeat (refine And.intro rfl ?_)
      have hspec := f40_spec t s ht (d.v.map tI).length d hlm hd _ need (codeN l[i]) hnl (Nat.le_refl _) (by omega) (by rw [hlm, ← hlen]; exact hkv)
      rw [show ((codeN l[i] : Nat) : Int) = codeI l[i] from (code_cast hin).symm] at hspec
      refine ModH.mk ρN hspec rfl rfl (by repeat (first | exact trivial | refine And.intro rfl ?_)) ?_
      rintro _ _ ⟨nd, rfl, rfl, hmk, hk'⟩
      refine And.intro rfl ?_
      repeat (refine And.intro rfl ?_)
      refine And.intro (by omega) (And.intro (by omega) ?_)
      refine Exists.intro (i + 1, nd, []) (And.intro (by show l.length - (i + 1) < l.length - i; omega) (And.intro ⟨hi, hmk.len.trans hnl, ?_, fun k hk => ?_, fun x hx => ?_⟩ (And.intro rfl rfl)))
      · show gotB d.v (l.take (i + 1)) = true
        rw [got_snoc hi, hg]; simp; omega
      · rcases hmk.clo k hk with h | h
        · have := hclo k h
          exact ⟨this.1, this.2.mono hmk.mono⟩
        · exact h
      · rw [List.take_add_one, List.getElem?_eq_getElem hi] at hx
        rcases List.mem_append.1 hx with hx | hx
        · exact hmk.mono _ (hmem x hx)
        · simp at hx; subst hx; exact hk'
    have hie : i = l.length := by have := ge_of_dec h1; have : i ≤ l.length := hi0; omega
    rw [hie, List.take_length] at hg hmem
    refine SpecP.mono (f41_spec t n1 s ht hs []) ?_
    rintro _ _ ⟨b0, hb0, rfl, rfl⟩
    have hb0e := ini_eq hb0
    have hbl0 : b0.length = 2 * t.facts.length := hb0.1
    have hol : d.order.length ≤ 2 * t.facts.length := nodup_len hd.nd fun j x hj => let ⟨k, e1, e2, _⟩ := hd.why j x hj; ⟨k, e1, e2⟩
    refine LoopX.mk (Nat × (List Int × (List Bool × List Fr))) (fun q => q.1 ≤ d.order.length ∧ runB t b0 q.2.1 = some q.2.2.1 ∧ q.2.2.1.length = b0.length ∧ q.2.1.length ≤ q.1 ∧ (∀ x ∈ q.2.1, 0 ≤ x ∧ x < (t.acts.length : Int)) ∧ (∀ k : Nat, (k : Int) ∈ d.order.take q.1 → need.getD k false = true → q.2.2.1.getD k false = true) ∧ ∀ k, b0.getD k false = true → q.2.2.1.getD k false = true)
      (fun q => [(3, .ptr (.cur 24) 0), (10, .ptr (.cur 80) 0), (11, .ptr (.cur 88) 0), (12, .ptr (.cur 96) 0), (16, accV 744 1 (q.2.1.map tI)), (17, .osl (.cur 465001499) 1 0 b0.length), (60, .ints d.order.isEmpty d.order), (61, .int (d.order.map tI).length), (62, .int q.1)])
      (fun q => ⟨q.2.2.2, frP t (d.v.map tI).length d need ++ (accO 744 3 1 (q.2.1.map tI) ++ [(465001499, .row 4 1 (q.2.2.1.map tB))])⟩) (fun q => d.order.length - q.1) (0, [], b0, o)
      ⟨Nat.zero_le _, rfl, rfl, Nat.le_refl _, (fun x hx => by cases hx), (fun k hk => by simp at hk), fun k hk => hk⟩ ⟨rfl, rfl⟩ ?_
    clear h1 hi0
    rintro ⟨j, p, b, o⟩ ⟨hj0, hr, hbl, hpl, hpin, hcol, hmono⟩
    simp only at hj0 hr hbl hpl hpin hcol hmono
    cases p
    case' nil => let P2 : List Int := []
    case' cons y r => let P2 : List Int := y :: r
    all_goals
      refine And.intro (fun h1 => ?_) fun h1 => ?_
      · have hj : j < d.order.length := lt_of_dec h1
        obtain ⟨k, hk1, hk2, hk3⟩ := hd.why j d.order[j] (List.getElem?_eq_getElem hj)
        have hko : (k : Int) ∈ d.order := hk1 ▸ List.getElem_mem hj
        have hkv := (hd.mem k).1 hko
        have hgo : (d.order.map tI)[((j : Int)).toNat]? = some (tI (k : Int)) := by rw [← hk1]; exact get_map hj
        have hby : k < d.by_.length := by rw [hd.lby]; exact hk2
        have hgb : (d.by_.map tI)[((k : Int)).toNat]? = some (tI (ev d.by_ k)) := by
          have := getI hby
          rw [Nat.zero_add] at this; exact this
        have hkn : k < need.length := by rw [hnl, hlm]; exact hk2
        have hkb : k < b.length := by rw [hbl, hbl0]; exact hk2
        have hcol1 : ∀ (b' : List Bool), (∀ q, b.getD q false = true → b'.getD q false = true) → (need.getD k false = true → b'.getD k false = true) → ∀ q : Nat, (q : Int) ∈ d.order.take (j + 1) → need.getD q false = true → b'.getD q false = true := fun b' hm hk q hq hn => by
          rw [List.take_add_one, List.getElem?_eq_getElem hj] at hq
          rcases List.mem_append.1 hq with hq | hq
          · exact hm q (hcol q hq hn)
          · simp at hq
            have : q = k := by omega
            subst this; exact hk hn
        have hP2 : P2.length ≤ j := hpl
        refine And.intro (by omega) (Exists.intro _ (And.intro hgo ?_))
        refine And.intro (by omega) (Exists.intro _ (And.intro hgb ?_))
        refine And.intro (by omega) (And.intro (by show (k : Int) < (((d.v.map tI).length : Nat) : Int); omega) (Exists.intro _ (And.intro (getB hkn) ?_)))
        refine And.intro (fun h2 => ?_) fun h2 => ?_
        rotate_left
        · refine And.intro (by omega) (And.intro (by omega) ?_)
          refine Exists.intro (j + 1, P2, b, o) (And.intro (by show d.order.length - (j + 1) < d.order.length - j; omega) (And.intro ⟨hj, hr, hbl, Nat.le_succ_of_le hP2, hpin, hcol1 b (fun _ h => h) (fun h => by rw [h2] at h; cases h), hmono⟩ (And.intro rfl rfl)))
        refine And.intro (by omega) (And.intro (by show (k : Int) < ((b0.length : Nat) : Int); omega) (Exists.intro _ (And.intro (getB hkb) ?_)))
        refine And.intro (fun h3 => ?_) fun h3 => ?_
        · refine And.intro (by omega) (And.intro (by omega) ?_)
          refine Exists.intro (j + 1, P2, b, o) (And.intro (by show d.order.length - (j + 1) < d.order.length - j; omega) (And.intro ⟨hj, hr, hbl, Nat.le_succ_of_le hP2, hpin, hcol1 b (fun _ h => h) (fun _ => h3), hmono⟩ (And.intro rfl rfl)))
        rcases hd.rule hkv with ⟨e1, e2⟩ | ⟨i, r', r1, r2, r3, r4⟩
        · have hb0k : b0.getD k false = true := by rw [hb0.2 k hk2]; exact e2
          rw [hmono k hb0k] at h3; cases h3
        have hiR : i < (rulesX t).length := by
          have := (List.getElem?_eq_some_iff.1 r1).1
          simpa [epOf] using this
        obtain ⟨a, kk, fr, xa, R⟩ := rule_at ht s hiR
        have hre : r' = ⟨a, kk, fr, xa.cost⟩ := Option.some.inj (r1.symm.trans R.re)
        subst hre
        have hget : ((rulesX t).map tRY)[((i : Int)).toNat]? = some (tRY ⟨(a : Int), (kk : Int), fr.map Int.ofNat⟩) := by rw [Int.toNat_natCast, List.getElem?_map, R.rx]; rfl
        rw [r2]
        refine And.intro (fun _ => ?_) fun h => by simp at h
        refine And.intro (by omega) (Exists.intro _ (And.intro hget ?_))
        have hA : (t.acts.map tAct)[((a : Int)).toNat]? = some (tAct xa) := by rw [Int.toNat_natCast, List.getElem?_map, R.act]; rfl
        have hal : a < t.acts.length := (List.getElem?_eq_some_iff.1 R.act).1
        -- the literals that the rule needs are collected
        have hin2 : ∀ y ∈ fr, b.getD y false = true := fun y hy => by
          have hyo : (y : Int) ∈ d.order.take j := by
            rcases hk3 with ⟨e1, _⟩ | ⟨i', rr, f1, f2, f3, f4⟩
            · rw [r2] at e1; omega
            · have : i' = i := by rw [r2] at f2; omega
              subst this
              rw [r1] at f1; cases f1
              exact f4 y hy
          exact hcol y hyo ((hclo k h2).2 i _ r2 r1 y hy)
        have hpre : setHas b xa.pre = true := List.all_eq_true.2 fun x hx => hin2 _ (R.pre x hx)
        have hcolk : (colN b xa).getD k false = true := by
          obtain ⟨e, he1, he2, he3⟩ := R.eff
          have hwh : setHas b e.when_ = true := List.all_eq_true.2 fun x hx => hin2 _ (he3 x hx)
          have hkk : kk = k := r3
          refine setL_get (x := codeI e.lit) ?_ ?_ ?_
          · exact List.mem_map.2 ⟨e, List.mem_filter.2 ⟨he1, hwh⟩, rfl⟩
          · rw [he2, hkk]
          · exact hkb
        have hcolm : ∀ q, b.getD q false = true → (colN b xa).getD q false = true := fun q hq => setL_mono _ _ hq
        have hr2 : runB t b0 (P2 ++ [(a : Int)]) = some (colN b xa) := by
          rw [runB_app, show runB t b0 P2 = some b from hr]
          show runB t b [(a : Int)] = _
          rw [runB_cons, Int.toNat_natCast, R.act]
          simp only [hpre, if_true]; rfl
        have hl4 : ∀ X : List T, ((P2.map tI).take (P2.map tI).length ++ [X]).length ≤ 100000 := fun X => by
          rw [List.take_length, List.length_append, List.length_map, List.length_singleton]; omega
        repeat first
          | refine And.intro (Nat.le_of_ble_eq_true rfl) ?_
          | refine And.intro (Nat.le_refl _) ?_
          | refine And.intro rfl ?_
          | refine And.intro (Nat.le_trans (Nat.mul_le_mul_right _ (hl4 _)) (Nat.le_of_ble_eq_true rfl)) ?_
          | refine And.intro (Nat.le_trans (hl4 _) (Nat.le_of_ble_eq_true rfl)) ?_
          | refine And.intro (by omega) ?_
          | refine Exists.intro _ (And.intro hget ?_)
        have hspec := f42_spec t ht b b0.length a xa (by rw [hbl]; exact hbl0) hbl.symm R.act
        rw [hpre, if_pos rfl] at hspec
        refine ModH.mk [(1, 465001499)] hspec rfl rfl ⟨rfl, trivial⟩ ?_
        rintro _ _ ⟨rfl, rfl⟩
        refine And.intro rfl ?_
        refine And.intro (fun _ => ?_) fun h => by cases h
        repeat (refine And.intro rfl ?_)
        repeat first
          | refine And.intro rfl ?_
          | refine And.intro (by omega) ?_
          | refine Exists.intro _ (And.intro hget ?_)
        have hinv : runB t b0 (P2 ++ [(a : Int)]) = some (colN b xa) ∧ (colN b xa).length = b0.length ∧ (P2 ++ [(a : Int)]).length ≤ j + 1 ∧ (∀ x ∈ P2 ++ [(a : Int)], 0 ≤ x ∧ x < (t.acts.length : Int)) ∧ (∀ k : Nat, (k : Int) ∈ d.order.take (j + 1) → need.getD k false = true → (colN b xa).getD k false = true) ∧ ∀ k, b0.getD k false = true → (colN b xa).getD k false = true := by
          refine ⟨hr2, by rw [colN_len]; exact hbl, by simp; omega, fun x hx => ?_, hcol1 _ hcolm fun _ => hcolk, fun q hq => hcolm q (hmono q hq)⟩
          rcases List.mem_append.1 hx with hx | hx
          · exact hpin x hx
          · simp at hx; subst hx; omega
        first
          | exact Exists.intro (j + 1, [(a : Int)], colN b xa, []) (And.intro (by show d.order.length - (j + 1) < d.order.length - j; omega) (And.intro ⟨hj, hinv⟩ (And.intro rfl rfl)))
          | (refine Exists.intro (j + 1, y :: (r ++ [(a : Int)]), colN b xa, []) (And.intro (by show d.order.length - (j + 1) < d.order.length - j; omega) (And.intro ⟨hj, hinv⟩ ?_))
             have e1 : List.take (tI y :: List.map tI r).length (tI y :: List.map tI r) ++ [tI (a : Int)] = tI y :: List.map tI (r ++ [(a : Int)]) := by rw [List.take_length]; simp
             simp only [List.map_cons, ← e1]
             exact And.intro rfl rfl)
      · have hje : j = d.order.length := by have := ge_of_dec h1; have : j ≤ d.order.length := hj0; omega
        rw [hje, List.take_length] at hcol
        have hset : setHas b l = true := List.all_eq_true.2 fun x hx => by
          have hn2 := hmem x hx
          have hv := (hclo _ hn2).1
          exact hcol _ ((hd.mem _).2 hv) hn2
        have htk : takesB t s P2 l = true := by unfold takesB; rw [← hb0e, show runB t b0 P2 = some b from hr]; exact hset
        refine Exists.intro [744] (.inr ⟨h0, d, hd, .inr ⟨hg, P2, ⟨hpin, htk, ?_⟩, rfl, rfl⟩⟩)
        have hle : P2.length ≤ j := hpl
        rw [hje] at hle
        refine Nat.le_trans hle ?_
        unfold litsOf
        rw [List.length_map]
        have : d.order.length ≤ (((List.range (2 * t.facts.length)).filter fun k => decide (0 ≤ ev d.v k)).map Int.ofNat).length := List.Nodup.length_le_of_subset hd.nd fun y hy => by
          obtain ⟨q, hq⟩ := List.mem_iff_getElem?.1 hy
          obtain ⟨k, rfl, hk2, _⟩ := hd.why q y hq
          exact List.mem_map.2 ⟨k, List.mem_filter.2 ⟨List.mem_range.2 hk2, by simpa using (hd.mem k).1 hy⟩, rfl⟩
        rwa [List.length_map] at this
  repeat' first
    | refine And.intro rfl ?_
    | (refine SpecP.mono (f28_spec t n1 s false ht hs []) ?_; rintro _ _ ⟨d, hd, rfl, rfl⟩)
    | (refine SpecP.mono (f39_spec t ht []) ?_; rintro _ _ ⟨rfl, rfl⟩)
    | refine And.intro ?_ ?_
    | exact rest _ ‹EstOK t s false _›

end Go.Fw

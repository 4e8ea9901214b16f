/- The functions of the reference. -/
import Derived.Test.YtjmekjoomdblfaaZM

/- What the reference's functions do: literals that differ; what is contained. -/
namespace Go.Fw
open Go Go.Proofs Heap
set_option maxRecDepth 10000

def litEq (x y : Lit) : Bool := x.fact == y.fact && x.neg == y.neg
theorem litEq_iff {x y : Lit} : litEq x y = true ↔ x = y := by
  cases x; cases y; simp [litEq]
def addLt (l : List Lit) (x : Lit) : List Lit := if l.any (litEq x) then l else l ++ [x]
def dedL (l : List Lit) : List Lit := l.foldl addLt []
theorem dedL_snoc (l : List Lit) (x : Lit) : dedL (l ++ [x]) = addLt (dedL l) x := by simp [dedL]
theorem addLt_len (l : List Lit) (x : Lit) : (addLt l x).length ≤ l.length + 1 := by unfold addLt; split <;> simp
theorem dedL_len (l : List Lit) : (dedL l).length ≤ l.length := by
  have key : ∀ (l m : List Lit), (l.foldl addLt m).length ≤ m.length + l.length := by
    intro l
    induction l with
    | nil => intro m; simp
    | cons x r ih => intro m; have := ih (addLt m x); have := addLt_len m x; simp; omega
  have := key l []; simpa [dedL] using this
theorem code_inj {x y : Lit} (h : codeI x = codeI y) : x = y := by
  cases x with | mk f n => cases y with | mk g m =>
  unfold codeI at h
  cases n <;> cases m <;> simp at h ⊢ <;> omega
theorem dedL_codes (l : List Lit) : (dedL l).map codeI = dedupI (l.map codeI) := by
  have key : ∀ (l m : List Lit), (l.foldl addLt m).map codeI = (l.map codeI).foldl addN (m.map codeI) := by
    intro l
    induction l with
    | nil => intro m; rfl
    | cons x r ih =>
      intro m
      show (r.foldl addLt (addLt m x)).map codeI = (r.map codeI).foldl addN (addN (m.map codeI) (codeI x))
      rw [ih]
      congr 1
      unfold addLt addN
      have e : (m.map codeI).any (codeI x == ·) = m.any (litEq x) := by
        rw [List.any_map]
        congr 1; funext y
        rw [Bool.eq_iff_iff, litEq_iff]
        simp only [Function.comp, beq_iff_eq]
        exact ⟨code_inj, fun h => by rw [h]⟩
      rw [e]
      split
      · rfl
      · simp
  exact key l []
def kp36 : Kp := [(3, ([5, 14, 15, 16], [96, 112, 304])), (7, ([5, 7, 8, 14, 15, 16, 20, 21, 22], [56, 96, 112, 304]))]
set_option maxHeartbeats 2000000 in
theorem f36o_spec (n1 n2 : Bool) (l m : List Lit) (hl1 : l.length ≤ 1000000000) (hm1 : m.length ≤ 1000000000) (out : List Fr) :
    SpecP Try.prog 36 [.lits n1 l, .lits n2 m] out fun r ro => r = accV 304 2 ((dedL (l ++ m)).map tLit) ∧ ro = accO 304 51 2 ((dedL (l ++ m)).map tLit) := by
  refine spec_body cx_ok kp36 [] (fn := Try.f36) (by kernel_rfl) rfl (by kernel_rfl) rfl (by unfold FnOK; kernel_rfl) fun hok => ?_
  cases l
  case' nil =>
    cases m
    case' nil =>
      let L : List Lit := []
      let es : List (List T) := []
      let n14 : Nat := 0
      let V14 : LV := .t (.sl true 0 [])
      let R : Fr := []
      have hes : es = L.map tLit := rfl
      have hn14 : n14 = L.length := rfl
      have hLl : L.length ≤ 2000000000 := by simp [L]
    case' cons xw rw =>
      refine And.intro (by simp at hm1 ⊢; omega) (And.intro (by simp at hm1 ⊢; omega) ?_)
      let L : List Lit := xw :: rw
      let es : List (List T) := (xw :: rw).map tLit
      let n14 : Nat := es.length
      let V14 : LV := .osl (.cur 112) 2 0 n14
      let R : Fr := [(112, .row 51 2 es)]
      have hes : es = L.map tLit := rfl
      have hn14 : n14 = L.length := by simp [n14, hes]
      have hLl : L.length ≤ 2000000000 := by simp [L] at hm1 ⊢; omega
  case' cons xw rw =>
    refine And.intro (by simp at hl1 ⊢; omega) (And.intro (by simp at hl1 ⊢; omega) ?_)
    refine And.intro rfl (And.intro (by simp at hl1 ⊢; omega) (And.intro (by simp at hl1 ⊢; omega) ?_))
    let L : List Lit := xw :: rw ++ m
    let es : List (List T) := (xw :: rw).map tLit ++ m.map tLit
    let n14 : Nat := es.length
    let V14 : LV := .osl (.cur 96) 2 0 n14
    let R : Fr := [(96, .row 51 2 es)]
    have hes : es = L.map tLit := by simp [es, L]
    have hn14 : n14 = L.length := by simp [n14, hes]
    have hLl : L.length ≤ 2000000000 := by simp [L] at hl1 ⊢; omega
  all_goals
    refine LoopW.mk (Nat × List Lit) (fun p => p.1 ≤ L.length ∧ p.2 = dedL (L.take p.1))
      (fun p => [(5, accV 304 2 (p.2.map tLit)), (14, V14), (15, .int n14), (16, .int p.1)])
      (fun p => ⟨out, R ++ accO 304 51 2 (p.2.map tLit)⟩) (fun p => L.length - p.1) (0, []) ⟨Nat.zero_le _, rfl⟩ ⟨rfl, rfl⟩ ?_
    rintro ⟨i, M⟩ ⟨hi0, hM⟩
    simp only at hi0 hM
    have hMl : M.length ≤ 2000000000 := by rw [hM]; have := dedL_len (L.take i); rw [List.length_take] at this; omega
    cases M
    case' nil => let M2 : List Lit := []
    case' cons y r => let M2 : List Lit := y :: r
    all_goals
      refine And.intro (fun h1 => ?_) fun h1 => ?_
      rotate_left
      · have hi : i = L.length := by
          have h1' : ¬ (i : Int) < (n14 : Int) := of_decide_eq_false h1
          rw [hn14] at h1'; have : i ≤ L.length := hi0; omega
        rw [hi, List.take_length] at hM
        have hM' : M2 = dedL L := hM
        exact Exists.intro [304] ⟨congrArg (fun z : List Lit => accV 304 2 (z.map tLit)) hM', congrArg (fun z : List Lit => accO 304 51 2 (z.map tLit)) hM'⟩
      have hi : i < L.length := by
        have h1' : (i : Int) < (n14 : Int) := of_decide_eq_true h1
        rw [hn14] at h1'; omega
      first
        | exact absurd hi (Nat.not_lt_zero i)
        | skip
      all_goals
        have hel : es[0 + ((i : Nat) : Int).toNat]? = some (tLit L[i]) := by rw [Nat.zero_add, Int.toNat_natCast, hes, List.getElem?_map, List.getElem?_eq_getElem hi]; rfl
        refine And.intro (by omega) (And.intro (of_decide_eq_true h1) (Exists.intro _ (And.intro hel (And.intro (Nat.le_refl 2) ?_))))
        have hstep : dedL (L.take (i + 1)) = addLt M2 L[i] := by
          rw [List.take_add_one, List.getElem?_eq_getElem hi]
          show dedL (L.take i ++ [L[i]]) = _
          rw [dedL_snoc, ← hM]
        refine LoopW.mk (Nat × Bool) (fun q => q.1 ≤ M2.length ∧ q.2 = (M2.take q.1).any (litEq L[i]))
          (fun q => [(5, accV 304 2 (M2.map tLit)), (7, .ptr (.cur 56) 0), (8, .bool q.2), (14, V14), (15, .int n14), (16, .int i), (20, accV 304 2 (M2.map tLit)), (21, .int (M2.map tLit).length), (22, .int q.1)])
          (fun q => ⟨out, (56, .box [.int L[i].fact, .bool L[i].neg]) :: (R ++ accO 304 51 2 (M2.map tLit))⟩) (fun q => M2.length - q.1) (0, false) ⟨Nat.zero_le _, rfl⟩ ⟨rfl, rfl⟩ ?_
        rintro ⟨j, is⟩ ⟨hj0, his⟩
        simp only at hj0 his
        have hMll : M2.length ≤ 2000000000 := hMl
        refine And.intro (fun h2 => ?_) fun h2 => ?_
        · have hj : j < M2.length := by
            have h2' : (j : Int) < ((M2.map tLit).length : Int) := of_decide_eq_true h2
            rw [List.length_map] at h2'; omega
          first
            | exact absurd hj (Nat.not_lt_zero j)
            | skip
          all_goals
            have hgm : (M2.map tLit)[0 + ((j : Nat) : Int).toNat]? = some (tLit M2[j]) := by rw [Nat.zero_add, Int.toNat_natCast, List.getElem?_map, List.getElem?_eq_getElem hj]; rfl
            have hany : (M2.take (j + 1)).any (litEq L[i]) = ((M2.take j).any (litEq L[i]) || litEq L[i] M2[j]) := by
              rw [List.take_add_one, List.getElem?_eq_getElem hj, List.any_append]; rw [Option.toList_some, List.any_cons, List.any_nil, Bool.or_false]
            refine And.intro (by omega) (And.intro (of_decide_eq_true h2) (Exists.intro _ (And.intro hgm (And.intro (Nat.le_refl 2) ?_))))
            cases is
            · refine And.intro (fun h3 => ?_) fun h3 => ?_
              all_goals
                refine And.intro (by omega) (And.intro (by omega) ?_)
                refine Exists.intro (j + 1, _) (And.intro (by show M2.length - (j + 1) < M2.length - j; omega) (And.intro ⟨hj, ?_⟩ (And.intro rfl rfl)))
                show _ = (M2.take (j + 1)).any (litEq L[i])
                rw [hany, ← his, Bool.false_or]
                exact (show litEq L[i] M2[j] = _ from by simpa [litEq] using h3).symm
            · refine And.intro (by omega) (And.intro (by omega) ?_)
              refine Exists.intro (j + 1, true) (And.intro (by show M2.length - (j + 1) < M2.length - j; omega) (And.intro ⟨hj, ?_⟩ (And.intro rfl rfl)))
              show true = (M2.take (j + 1)).any (litEq L[i])
              rw [hany, ← his, Bool.true_or]
        · have hje : j = M2.length := by
            have h2' : ¬ (j : Int) < ((M2.map tLit).length : Int) := of_decide_eq_false h2
            rw [List.length_map] at h2'
            have : j ≤ M2.length := hj0
            omega
          rw [hje, List.take_length] at his
          cases is
          · have hl4 : ∀ X : List T, ((M2.map tLit) ++ [X]).length ≤ 2000000001 := fun X => by
              rw [List.length_append, List.length_map, List.length_singleton]; omega
            repeat first
              | refine And.intro (Nat.le_of_ble_eq_true rfl) ?_
              | refine And.intro rfl ?_
              | refine And.intro (Nat.le_trans (Nat.mul_le_mul_right _ (hl4 _)) (Nat.le_of_ble_eq_true rfl)) ?_
              | refine And.intro (Nat.le_trans (hl4 _) (Nat.le_of_ble_eq_true rfl)) ?_
            refine And.intro (by omega) (And.intro (by omega) ?_)
            have hnew : M2 ++ [L[i]] = dedL (L.take (i + 1)) := by rw [hstep, addLt, ← his]; rfl
            first
              | exact Exists.intro (i + 1, [L[i]]) (And.intro (by show L.length - (i + 1) < L.length - i; omega) (And.intro ⟨hi, hnew⟩ (And.intro rfl rfl)))
              | (refine Exists.intro (i + 1, y :: (r ++ [L[i]])) (And.intro (by show L.length - (i + 1) < L.length - i; omega) (And.intro ⟨hi, hnew⟩ ?_))
                 have e : (r ++ [L[i]]).map tLit = r.map tLit ++ [tLit L[i]] := by simp
                 simp only [List.map_cons, e]
                 exact And.intro rfl rfl)
          · refine And.intro (by omega) (And.intro (by omega) ?_)
            refine Exists.intro (i + 1, M2) (And.intro (by show L.length - (i + 1) < L.length - i; omega) (And.intro ⟨hi, ?_⟩ (And.intro rfl rfl)))
            show M2 = _
            rw [hstep, addLt, ← his]; rfl
theorem f36_spec (n1 n2 : Bool) (l m : List Lit) (hl1 : l.length ≤ 1000000000) (hm1 : m.length ≤ 1000000000) (out : List Fr) :
    SpecP Try.prog 36 [.lits n1 l, .lits n2 m] out fun r ro => r = .lits (dedL (l ++ m)).isEmpty (dedL (l ++ m)) ∧ ro = [] :=
  (f36o_spec n1 n2 l m hl1 hm1 out).close fun r ro ⟨h1, h2⟩ => by
    refine ⟨_, ?_, rfl, rfl⟩
    rw [h1]
    have := acc_cls (s := 304) (e := 51) (sz := 2) (es := (dedL (l ++ m)).map tLit) (ro := ro) fun x r he => by rw [h2, he]; exact look_cons .. |>.trans (if_pos rfl)
    rw [show (dedL (l ++ m)).isEmpty = ((dedL (l ++ m)).map tLit).isEmpty by cases dedL (l ++ m) <;> rfl]
    exact this
theorem f36n_spec (n1 : Bool) (l : List Lit) (hl1 : l.length ≤ 1000000000) (out : List Fr) :
    SpecP Try.prog 36 [.lits n1 l, .t (.sl true 0 [])] out fun r ro => r = .lits (dedL l).isEmpty (dedL l) ∧ ro = [] := by
  have h := f36_spec n1 true l [] hl1 (Nat.zero_le _) out
  rw [List.append_nil] at h
  exact SpecP.conv (args' := [.lits n1 l, .lits true []]) (fun β RO w vals hv => ⟨hv.1, fun i z v hz hvz => by
    match i with
    | 0 => exact hv.2 0 z v hz hvz
    | 1 => simp at hz; subst hz; exact nil_sz _ _ _ _ (hv.2 1 _ v rfl hvz)
    | i + 2 => simp at hz⟩) h

/-! ### The value of literals -/
def valueR (add : Bool) (e : List Int) (l : List Lit) : LV := if gotB e l then .tup [.int (comb add e (l.map codeN)), .bool true] else .tup [.int 0, .bool false]
def kp34 : Kp := [(3, ([0, 2, 8, 12, 13, 14], []))]
theorem f34_spec (n1 n2 add : Bool) (e : List Int) (l : List Lit) (hl : ∀ x ∈ l, big x.fact ∧ 0 ≤ codeI x ∧ codeI x < e.length) (hfar : ∀ k, ev e k ≤ farI) (out : List Fr) :
    SpecP Try.prog 34 [.ints n1 e, .lits n2 l, .bool add] out fun r ro => r = valueR add e l ∧ ro = [] := by
  refine spec_body cx_ok kp34 [] (fn := Try.f34) (by kernel_rfl) rfl (by kernel_rfl) rfl (by unfold FnOK; kernel_rfl) fun hok => ?_
  have hmx := le_max hok.2.1.1
  refine LoopW.mk (Nat × Int) (fun p => p.1 ≤ l.length ∧ gotB e (l.take p.1) = true ∧ p.2 = comb add e ((l.take p.1).map codeN)) (fun p => [(0, .ints n1 e), (2, .bool add), (8, .int p.2), (12, .lits n2 l), (13, .int (l.map tLit).length), (14, .int p.1)])
    (fun _ => ⟨out, []⟩) (fun p => l.length - p.1) (0, 0) ⟨Nat.zero_le _, rfl, rfl⟩ ⟨rfl, rfl⟩ ?_
  rintro ⟨i, n⟩ ⟨hi0, hg, hn⟩
  simp only at hi0 hg hn
  have hnr : 0 ≤ n ∧ n ≤ farI := by rw [hn]; exact ⟨comb_nonneg .., comb_le_far hfar _⟩
  refine And.intro (fun h1 => ?_) fun h1 => ?_
  · have hi : i < l.length := lt_of_dec h1
    obtain ⟨hb, c0, c1⟩ := hl _ (List.getElem_mem hi)
    have hkv : codeN l[i] < e.length := by unfold codeN; omega
    have hgv : (e.map tI)[(codeI l[i]).toNat]? = some (tI (ev e (codeN l[i]))) := by
      have := getI hkv
      rw [Nat.zero_add, Int.toNat_natCast] at this; exact this
    have hvf := hfar (codeN l[i])
    refine And.intro (by omega) (Exists.intro _ (And.intro (get_map hi) ?_))
    refine SpecP.mono (f45_spec l[i] hb []) ?_
    rintro _ _ ⟨rfl, rfl⟩
    refine And.intro c0 (Exists.intro _ (And.intro hgv ?_))
    refine And.intro (fun h2 => ?_) fun h2 => ?_
    · have h2' : ev e (codeN l[i]) < 0 := of_decide_eq_true h2
      exact Exists.intro [] ⟨by rw [valueR, if_neg (by rw [got_false hi h2']; decide)]; rfl, rfl⟩
    have h2' : ¬ ev e (codeN l[i]) < 0 := of_decide_eq_false h2
    have hg2 : gotB e (l.take (i + 1)) = true := by rw [got_snoc hi, hg]; simp; omega
    cases add
    · refine And.intro (by omega) (And.intro (by omega) ?_)
      refine Exists.intro (i + 1, if ev e (codeN l[i]) > n then ev e (codeN l[i]) else n) (And.intro (by show l.length - (i + 1) < l.length - i; omega) (And.intro ⟨hi, hg2, ?_⟩ (And.intro rfl rfl)))
      show (if ev e (codeN l[i]) > n then ev e (codeN l[i]) else n) = _
      rw [take_codes hi, comb_snoc hfar, ← hn, pos_of (by omega)]
      simp only [Bool.false_eq_true, if_false]
      split <;> omega
    · refine And.intro (by show (-9223372036854775808 : Int) ≤ n + ev e (codeN l[i]); omega) (And.intro (by show n + ev e (codeN l[i]) ≤ 9223372036854775807; unfold farI at *; omega) ?_)
      refine And.intro (by omega) (And.intro (by omega) ?_)
      refine Exists.intro (i + 1, if 1099511627777 < n + ev e (codeN l[i]) then 1099511627777 else n + ev e (codeN l[i])) (And.intro (by show l.length - (i + 1) < l.length - i; omega) (And.intro ⟨hi, hg2, ?_⟩ (And.intro rfl rfl)))
      show (if 1099511627777 < n + ev e (codeN l[i]) then 1099511627777 else n + ev e (codeN l[i])) = _
      rw [take_codes hi, comb_snoc hfar, ← hn, pos_of (by omega), if_pos rfl]
      unfold farI
      split <;> omega
  · have hi : i = l.length := by have := ge_of_dec h1; omega
    rw [hi, List.take_length] at hg hn
    exact Exists.intro [] ⟨by rw [valueR, if_pos hg, hn]; rfl, rfl⟩

end Go.Fw

/- What the reference's functions do: estimates. -/
namespace Go.Fw
open Go Go.Proofs Heap
set_option maxRecDepth 10000

/-! ### The plain law -/
def mE (e : List Int) : Nat := (e.map fun x => if x < 0 then 1099511627779 else (x + 1).toNat).sum
theorem sum_set_lt : ∀ {l : List Nat} {k y : Nat} (h : k < l.length), y < l[k] → (l.set k y).sum < l.sum
  | x :: r, 0, y, _, hy => by simp at hy ⊢; omega
  | x :: r, k + 1, y, h, hy => by
    have := sum_set_lt (l := r) (k := k) (y := y) (by simpa using h) (by simpa using hy)
    simp; omega
theorem mE_set {e : List Int} {k : Nat} {v : Int} (hk : k < e.length) (hv : 0 ≤ v ∧ v ≤ farI) (h : ev e k < 0 ∨ v < ev e k) : mE (e.set k v) < mE e := by
  unfold mE
  rw [List.map_set]
  refine sum_set_lt (by simpa using hk) ?_
  have e1 : ev e k = e[k] := by simp [ev, hk]
  rw [e1] at h
  unfold farI at hv
  simp only [List.getElem_map]
  split <;> split <;> omega
structure BI (t : Task) (s : List Int) (add : Bool) (e : List Int) : Prop where
  len : e.length = 2 * t.facts.length
  low : ∀ k, -1 ≤ ev e k ∧ ev e k ≤ farI
  jus : ∀ k, 0 ≤ ev e k → Jus (epOf t s) add k (ev e k)
  ini : ∀ k, k < 2 * t.facts.length → holdsL s k = true → ev e k = 0
/-- What an effect asks of the estimates. -/
def EfOK (add : Bool) (e : List Int) (A : Actn) (x : Eff) : Prop := gotB e (dedL (A.pre ++ x.when_)) = true → 0 ≤ ev e (codeN x.lit) ∧ ev e (codeN x.lit) ≤ min farI (comb add e ((dedL (A.pre ++ x.when_)).map codeN) + A.cost)
structure MidE (t : Task) (s : List Int) (add : Bool) (e e' : List Int) (g : Bool) (D : Prop) : Prop where
  bi : BI t s add e'
  no : g = false → e' = e ∧ D
  yes : g = true → mE e' < mE e
theorem MidE.weak {t s add e e' g} {D D' : Prop} (h : MidE t s add e e' g D) (hd : g = false → e' = e → D → D') : MidE t s add e e' g D' :=
  ⟨h.bi, fun hg => ⟨(h.no hg).1, hd hg (h.no hg).1 (h.no hg).2⟩, h.yes⟩
theorem codesL (l : List Lit) : (dedL l).map codeN = (dedupI (l.map codeI)).map Int.toNat := by rw [← dedL_codes, List.map_map]; rfl
theorem rule_eq {t : Task} {a : Nat} {A : Actn} {x : Eff} (hA : t.acts[a]? = some A) : ruleE t (ruleOf (a : Int) A x) = ⟨a, codeN x.lit, (dedL (A.pre ++ x.when_)).map codeN, A.cost⟩ := by
  unfold ruleE ruleOf
  simp only [Int.toNat_natCast, hA, codesL]
  rfl
theorem rule_mem {t : Task} {s : List Int} {a : Nat} {A : Actn} {x : Eff} (hA : t.acts[a]? = some A) (hx : x ∈ A.effs) : (⟨a, codeN x.lit, (dedL (A.pre ++ x.when_)).map codeN, A.cost⟩ : Rule) ∈ (epOf t s).rules := by
  rw [← rule_eq hA]
  exact List.mem_map_of_mem (mem_rulesX hA hx)
theorem got_iff {e : List Int} {l : List Lit} : gotB e l = true ↔ got e (l.map codeN) := by
  unfold gotB got
  rw [List.all_eq_true]
  constructor
  · intro h x hx
    obtain ⟨y, hy, rfl⟩ := List.mem_map.1 hx
    exact of_decide_eq_true (h y hy)
  · intro h x hx
    exact decide_eq_true (h _ (List.mem_map_of_mem hx))
theorem MidE.set {t : Task} {s : List Int} {add : Bool} {e e' : List Int} {g : Bool} {D D' : Prop} (ht : isB t = true) (h : MidE t s add e e' g D) {a : Nat} {A : Actn} {x : Eff} {v : Int} (hA : t.acts[a]? = some A) (hx : x ∈ A.effs) (hg : gotB e' (dedL (A.pre ++ x.when_)) = true)
    (hv : v = min farI (comb add e' ((dedL (A.pre ++ x.when_)).map codeN) + A.cost)) (hlt : ev e' (codeN x.lit) < 0 ∨ v < ev e' (codeN x.lit)) : MidE t s add e (e'.set (codeN x.lit) v) true D' := by
  have K := task_ok ht
  have hAm : A ∈ t.acts := List.mem_of_getElem? hA
  have hkr := code_range (K.lit A hAm x hx)
  have hk : codeN x.lit < e'.length := by rw [h.bi.len]; unfold codeN; omega
  have hr := rule_mem (s := s) hA hx
  have hv' : v = rval add e' ⟨a, codeN x.lit, (dedL (A.pre ++ x.when_)).map codeN, A.cost⟩ := hv
  have hgot := got_iff.1 hg
  have hj := Jus.rule (add := add) hr fun y hy => ⟨hgot y hy, h.bi.jus y (hgot y hy)⟩
  have hv0 : 0 ≤ v ∧ v ≤ farI := by rw [hv']; exact ⟨rval_nonneg (epOf_ok ht s) hr, rval_le ..⟩
  have hs : ∀ q, ev (e'.set (codeN x.lit) v) q = if codeN x.lit = q then v else ev e' q := fun q => ev_set hk
  have hm := mE_set hk hv0 hlt
  refine ⟨⟨by rw [List.length_set]; exact h.bi.len, fun q => ?_, fun q hq => ?_, fun q hq hh => ?_⟩, (fun hg => by cases hg), fun _ => ?_⟩
  · rw [hs]; split
    · omega
    · exact h.bi.low q
  · rw [hs] at hq ⊢
    split
    · rename_i he; rw [hv', ← he]; exact hj
    · rename_i he; rw [if_neg he] at hq; exact h.bi.jus q hq
  · rw [hs]; split
    · rename_i he
      have h0 := h.bi.ini q hq hh
      rw [← he] at h0
      rcases hlt with hlt | hlt <;> omega
    · exact h.bi.ini q hq hh
  · cases g with
    | true => have := h.yes rfl; omega
    | false => rw [(h.no rfl).1] at hm ⊢; exact hm
theorem BI.isE {t : Task} {s : List Int} {add : Bool} {e : List Int} (h : BI t s add e) (hD : ∀ (a : Nat) (A : Actn), t.acts[a]? = some A → ∀ x ∈ A.effs, EfOK add e A x) : IsE (epOf t s) add e := by
  refine ⟨h.len, fun k => (h.low k).1, ⟨fun k hk hh => ?_, fun r hr hg => ?_⟩, h.jus⟩
  · have := h.ini k hk hh
    omega
  · obtain ⟨rx, hrx, rfl⟩ := List.mem_map.1 hr
    obtain ⟨a, A, x, hA, hx, rfl⟩ := rulesX_mem hrx
    rw [rule_eq hA] at hg ⊢
    exact hD a A hA x hx (got_iff.2 hg)
def iniE (s : List Int) (n i : Nat) : List Int := (List.range n).map fun k => if k < i then (if holdsL s k then 0 else -1) else 0
theorem iniE_len (s : List Int) (n i : Nat) : (iniE s n i).length = n := by simp [iniE]
theorem iniE_set (s : List Int) {n i : Nat} (h : i < n) : (iniE s n i).set i (if holdsL s i then 0 else -1) = iniE s n (i + 1) := by
  refine List.ext_getElem? fun k => ?_
  rw [List.getElem?_set]
  simp only [iniE, List.getElem?_map, List.length_map, List.length_range]
  by_cases hk : i = k
  · subst hk; simp [h]
  · rw [if_neg hk]
    by_cases hkn : k < n
    · simp only [List.getElem?_range hkn, Option.map_some]
      refine congrArg some ?_
      by_cases h1 : k < i
      · simp only [h1, if_true, show k < i + 1 by omega]
      · simp only [h1, if_false, show ¬ k < i + 1 by omega]
    · rw [List.getElem?_eq_none (by simpa using hkn)]; rfl
theorem iniE_bi {t : Task} {s : List Int} {add : Bool} : BI t s add (iniE s (2 * t.facts.length) (2 * t.facts.length)) := by
  have hev : ∀ k, ev (iniE s (2 * t.facts.length) (2 * t.facts.length)) k = if k < 2 * t.facts.length ∧ holdsL s k = true then 0 else -1 := fun k => by
    unfold ev iniE
    rw [List.getD_eq_getElem?_getD, List.getElem?_map]
    by_cases hk : k < 2 * t.facts.length
    · rw [List.getElem?_range hk]
      simp only [Option.map_some, Option.getD_some, hk, if_true, true_and]
    · rw [List.getElem?_eq_none (by simpa using hk)]
      simp [hk]
  refine ⟨iniE_len .., fun k => ?_, fun k hk => ?_, fun k hk hh => ?_⟩
  · rw [hev]; unfold farI; split <;> omega
  · rw [hev] at hk ⊢
    split
    · rename_i h; exact Jus.ini h.1 h.2
    · rename_i h; rw [if_neg h] at hk; omega
  · rw [hev, if_pos ⟨hk, hh⟩]

/-! ### The walk -/
theorem mem_dedL {l : List Lit} {x : Lit} (h : x ∈ dedL l) : x ∈ l := by
  have key : ∀ (l m : List Lit), x ∈ l.foldl addLt m → x ∈ m ∨ x ∈ l := by
    intro l
    induction l with
    | nil => intro m h; exact .inl h
    | cons y r ih =>
      intro m h
      rcases ih _ h with h | h
      · unfold addLt at h
        split at h
        · exact .inl h
        · rcases List.mem_append.1 h with h | h
          · exact .inl h
          · simp at h; exact .inr (by simp [h])
      · exact .inr (List.mem_cons_of_mem _ h)
  rcases key l [] h with h | h
  · cases h
  · exact h
def kp35 : Kp := [(3, ([1, 2, 3, 7, 23, 24], [24, 168])), (10, ([2, 3, 7, 9], [24, 168])), (13, ([2, 3, 7, 9, 44, 45, 46], [24, 168])), (16, ([2, 3, 7, 9, 11, 44, 45, 46, 51, 52, 53], [24, 168, 88]))]
set_option maxHeartbeats 2000000 in
theorem f35o_spec (t : Task) (n1 add : Bool) (s : List Int) (ht : isB t = true) (out : List Fr) : SpecP Try.prog 35 [.task t, .ints n1 s, .bool add] out fun r ro =>
    ∃ e, IsE (epOf t s) add e ∧ (∀ k, ev e k ≤ farI) ∧ r = .osl (.cur 168) 1 0 e.length ∧ ro = [(168, rowI e)] := by
  refine spec_body cx_ok kp35 [] (fn := Try.f35) (by kernel_rfl) rfl (by kernel_rfl) rfl (by unfold FnOK; kernel_rfl) fun hok => ?_
  have K := task_ok ht
  have hN := K.facts
  have hA := K.acts
  have hfl : (t.facts.map tS).length = t.facts.length := List.length_map ..
  refine And.intro (by omega) (And.intro (by omega) ?_)
  refine And.intro rfl (And.intro (by omega) (And.intro (by show (2 * ((t.facts.map tS).length : Int)) * ((8 : Nat) : Int) ≤ _; omega) (And.intro (by omega) ?_)))
  refine LoopW.mk Nat (fun i => i ≤ 2 * (t.facts.map tS).length) (fun i => [(1, .ints n1 s), (2, .bool add), (3, .ptr (.cur 24) 0), (7, .osl (.cur 168) 1 0 (2 * (t.facts.map tS).length)), (23, .int ((2 * (t.facts.map tS).length : Nat) : Int)), (24, .int i)])
    (fun i => ⟨out, [(24, .box (cellsTask t)), (168, rowI (iniE s (2 * (t.facts.map tS).length) i))]⟩) (fun i => 2 * (t.facts.map tS).length - i) 0 (Nat.zero_le _) ⟨rfl, ?_⟩ ?_
  · show (⟨out, [(24, .box (cellsTask t)), (168, .row 3 1 (List.replicate (2 * (t.facts.map tS).length) (tI 0)))]⟩ : St) = ⟨out, [(24, .box (cellsTask t)), (168, rowI (iniE s (2 * (t.facts.map tS).length) 0))]⟩
    have e : (iniE s (2 * (t.facts.map tS).length) 0).map tI = List.replicate (2 * (t.facts.map tS).length) (tI 0) := by
      refine List.ext_getElem (by simp [iniE]) fun k h1 h2 => by simp [iniE]
    simp only [rowI, e]
  intro i hi0
  refine And.intro (fun h1 => ?_) fun h1 => ?_
  · have hi : i < 2 * (t.facts.map tS).length := by
      have h1' : (i : Int) < ((2 * (t.facts.map tS).length : Nat) : Int) := of_decide_eq_true h1
      omega
    have hil : i < (iniE s (2 * (t.facts.map tS).length) i).length := by rw [iniE_len]; exact hi
    refine And.intro (by omega) (And.intro (by omega) (Exists.intro _ (And.intro (getI hil) (And.intro (Nat.le_refl 1) ?_))))
    have e3 : (i : Int).tdiv 2 = ((i / 2 : Nat) : Int) := by rw [Int.tdiv_eq_ediv_of_nonneg (by omega)]; omega
    have e4 : (i : Int).tmod 2 = ((i % 2 : Nat) : Int) := by rw [Int.tmod_eq_emod_of_nonneg (by omega)]; omega
    have hset : ∀ z : Int, (if holdsL s i then 0 else -1) = z → (((iniE s (2 * (t.facts.map tS).length) i).map tI).set (0 + ((i : Nat) : Int).toNat) (tI z)) = (iniE s (2 * (t.facts.map tS).length) (i + 1)).map tI := fun z hz => by rw [setI, ← hz, iniE_set s hi]
    refine And.intro (by decide) (And.intro (by show (-9223372036854775808 : Int) ≤ (i : Int).tdiv 2; rw [e3]; omega) (And.intro (by show (i : Int).tdiv 2 ≤ 9223372036854775807; rw [e3]; omega) ?_))
    refine SpecP.mono (f43_spec n1 s ((i : Int).tdiv 2) []) ?_
    rintro _ _ ⟨rfl, rfl⟩
    have hh : holdsL s i = (hasB s ((i : Int).tdiv 2) != decide (i % 2 = 1)) := by unfold holdsL; rw [e3]
    have hm1 : ∀ b : Bool, ((i : Int).tmod 2 == 0) = b → decide (i % 2 = 1) = !b := fun b hb => by
      rw [e4] at hb
      rw [← hb]
      rcases Nat.mod_two_eq_zero_or_one i with h | h <;> rw [h] <;> rfl
    have hg2 : (((iniE s (2 * (t.facts.map tS).length) i).map tI).set (0 + ((i : Nat) : Int).toNat) (tI (-1)))[0 + ((i : Nat) : Int).toNat]? = some (tI (-1)) := by
      rw [setI, getI (by rw [List.length_set]; exact hil), ev_set hil, if_pos rfl]
    have hib : (i : Int) < ((2 * (t.facts.map tS).length : Nat) : Int) := by omega
    have hset2 : (if holdsL s i then (0 : Int) else -1) = 0 → (iniE s (2 * (t.facts.map tS).length) (i + 1)).map tI = (((iniE s (2 * (t.facts.map tS).length) i).map tI).set (0 + ((i : Nat) : Int).toNat) (tI (-1))).set (0 + ((i : Nat) : Int).toNat) (tI 0) := fun hz => by rw [List.set_set]; exact (hset 0 hz).symm
    refine And.intro (fun h2 => ?_) fun h2 => ?_
    · refine And.intro (by decide) ?_
      refine And.intro (fun h3 => ?_) fun h3 => ?_
      · have h3' := hm1 _ h3
        rw [h2, h3'] at hh
        refine And.intro (fun h4 => ?_) fun h4 => ?_
        · refine And.intro (by omega) (And.intro hib (Exists.intro _ (And.intro hg2 (And.intro (Nat.le_refl 1) ?_))))
          refine And.intro (by omega) (And.intro (by omega) ?_)
          refine Exists.intro (i + 1) (And.intro (by show 2 * (t.facts.map tS).length - (i + 1) < 2 * (t.facts.map tS).length - i; omega) (And.intro hi ⟨rfl, ?_⟩))
          show _ = (⟨out, [(24, .box (cellsTask t)), (168, .row 3 1 ((iniE s (2 * (t.facts.map tS).length) (i + 1)).map tI))]⟩ : St)
          rw [hset2 (by rw [hh]; rfl)]; rfl
        · exact absurd h4 (by decide)
      · have h3' := hm1 _ h3
        rw [h2, h3'] at hh
        refine And.intro (fun h4 => ?_) fun h4 => ?_
        · exact absurd h4 (by decide)
        · refine And.intro (by omega) (And.intro (by omega) ?_)
          refine Exists.intro (i + 1) (And.intro (by show 2 * (t.facts.map tS).length - (i + 1) < 2 * (t.facts.map tS).length - i; omega) (And.intro hi ⟨rfl, ?_⟩))
          show _ = (⟨out, [(24, .box (cellsTask t)), (168, .row 3 1 ((iniE s (2 * (t.facts.map tS).length) (i + 1)).map tI))]⟩ : St)
          rw [← hset (-1) (by rw [hh]; rfl)]; rfl
    · refine And.intro (by decide) ?_
      refine And.intro (fun h3 => ?_) fun h3 => ?_
      · have h3' := hm1 _ h3
        rw [h2, h3'] at hh
        refine And.intro (fun h4 => ?_) fun h4 => ?_
        · exact absurd h4 (by decide)
        · refine And.intro (by omega) (And.intro (by omega) ?_)
          refine Exists.intro (i + 1) (And.intro (by show 2 * (t.facts.map tS).length - (i + 1) < 2 * (t.facts.map tS).length - i; omega) (And.intro hi ⟨rfl, ?_⟩))
          show _ = (⟨out, [(24, .box (cellsTask t)), (168, .row 3 1 ((iniE s (2 * (t.facts.map tS).length) (i + 1)).map tI))]⟩ : St)
          rw [← hset (-1) (by rw [hh]; rfl)]; rfl
      · have h3' := hm1 _ h3
        rw [h2, h3'] at hh
        refine And.intro (fun h4 => ?_) fun h4 => ?_
        · refine And.intro (by omega) (And.intro hib (Exists.intro _ (And.intro hg2 (And.intro (Nat.le_refl 1) ?_))))
          refine And.intro (by omega) (And.intro (by omega) ?_)
          refine Exists.intro (i + 1) (And.intro (by show 2 * (t.facts.map tS).length - (i + 1) < 2 * (t.facts.map tS).length - i; omega) (And.intro hi ⟨rfl, ?_⟩))
          show _ = (⟨out, [(24, .box (cellsTask t)), (168, .row 3 1 ((iniE s (2 * (t.facts.map tS).length) (i + 1)).map tI))]⟩ : St)
          rw [hset2 (by rw [hh]; rfl)]; rfl
        · exact absurd h4 (by decide)
  · have hi : i = 2 * (t.facts.map tS).length := by
      have h1' : ¬ (i : Int) < ((2 * (t.facts.map tS).length : Nat) : Int) := of_decide_eq_false h1
      have : i ≤ 2 * (t.facts.map tS).length := hi0
      omega
    have hbi0 : BI t s add (iniE s (2 * (t.facts.map tS).length) i) := by rw [hi, hfl]; exact iniE_bi
    generalize iniE s (2 * (t.facts.map tS).length) i = e0 at hbi0
    clear h1 hi0 hi
    refine LoopW.mk (List Int × Bool) (fun p => BI t s add p.1 ∧ (p.2 = false → ∀ (a : Nat) (A : Actn), t.acts[a]? = some A → ∀ x ∈ A.effs, EfOK add p.1 A x))
      (fun p => [(2, .bool add), (3, .ptr (.cur 24) 0), (7, .osl (.cur 168) 1 0 (2 * (t.facts.map tS).length)), (9, .bool p.2)])
      (fun p => ⟨out, [(24, .box (cellsTask t)), (168, rowI p.1)]⟩) (fun p => if p.2 = true then mE p.1 + 1 else 0) (e0, true) ⟨hbi0, fun h => by cases h⟩ ⟨rfl, rfl⟩ ?_
    rintro ⟨e, more⟩ ⟨hbi, hD⟩
    simp only at hbi hD
    cases more
    · refine Exists.intro [168] ⟨e, hbi.isE (hD rfl), fun k => (hbi.low k).2, ?_, rfl⟩
      show LV.osl (.cur 168) 1 0 (2 * (t.facts.map tS).length) = _
      rw [hbi.len, hfl]
    have hM0 : MidE t s add e e false (∀ (a : Nat) (A : Actn), a < 0 → t.acts[a]? = some A → ∀ x ∈ A.effs, EfOK add e A x) := ⟨hbi, fun _ => ⟨rfl, fun a _ h => absurd h (Nat.not_lt_zero a)⟩, fun h => by cases h⟩
    refine LoopW.mk (Nat × (List Int × Bool)) (fun p => p.1 ≤ t.acts.length ∧ MidE t s add e p.2.1 p.2.2 (∀ (a : Nat) (A : Actn), a < p.1 → t.acts[a]? = some A → ∀ x ∈ A.effs, EfOK add e A x))
      (fun p => [(2, .bool add), (3, .ptr (.cur 24) 0), (7, .osl (.cur 168) 1 0 (2 * (t.facts.map tS).length)), (9, .bool p.2.2), (44, .t (.sl t.an 4 (t.acts.map tAct))), (45, .int (t.acts.map tAct).length), (46, .int p.1)])
      (fun p => ⟨out, [(24, .box (cellsTask t)), (168, rowI p.2.1)]⟩) (fun p => t.acts.length - p.1) (0, e, false) ⟨Nat.zero_le _, hM0⟩ ⟨rfl, rfl⟩ ?_
    rintro ⟨a, e1, g⟩ ⟨ha0, hM⟩
    simp only at ha0 hM
    refine And.intro (fun h2 => ?_) fun h2 => ?_
    rotate_left
    · have hae : a = t.acts.length := by have := ge_of_dec h2; omega
      refine Exists.intro (e1, g) (And.intro ?_ (And.intro ⟨hM.bi, fun hg => ?_⟩ (And.intro rfl rfl)))
      · show (if g = true then mE e1 + 1 else 0) < mE e + 1
        cases g
        · simp
        · have := hM.yes rfl; simp; omega
      · obtain ⟨h3, h4⟩ := hM.no hg
        show ∀ (a : Nat) (A : Actn), _
        rw [h3]
        exact fun b B hB => h4 b B (by rw [hae]; exact (List.getElem?_eq_some_iff.1 hB).1) hB
    have ha : a < t.acts.length := lt_of_dec h2
    have hAx : t.acts[a]? = some t.acts[a] := List.getElem?_eq_getElem ha
    have hAm : t.acts[a] ∈ t.acts := List.getElem_mem ha
    have hcost := K.cost _ hAm
    have hE := K.effs _ hAm
    have hpl := cond_len (task_pre ht ha).1 (by omega)
    refine And.intro (by omega) (Exists.intro _ (And.intro (get_map ha) ?_))
    refine LoopW.mk (Nat × (List Int × Bool)) (fun p => p.1 ≤ t.acts[a].effs.length ∧ MidE t s add e p.2.1 p.2.2 ((∀ (b : Nat) (A : Actn), b < a → t.acts[b]? = some A → ∀ x ∈ A.effs, EfOK add e A x) ∧ ∀ x ∈ t.acts[a].effs.take p.1, EfOK add e t.acts[a] x))
      (fun p => [(2, .bool add), (3, .ptr (.cur 24) 0), (7, .osl (.cur 168) 1 0 (2 * (t.facts.map tS).length)), (9, .bool p.2.2), (11, .ptr (.cur 88) 0), (44, .t (.sl t.an 4 (t.acts.map tAct))), (45, .int (t.acts.map tAct).length), (46, .int a), (51, .t (.sl t.acts[a].en 3 (t.acts[a].effs.map tEff))), (52, .int (t.acts[a].effs.map tEff).length), (53, .int p.1)])
      (fun p => ⟨out, [(24, .box (cellsTask t)), (168, rowI p.2.1), (88, .box (cellsAct t.acts[a]))]⟩) (fun p => t.acts[a].effs.length - p.1) (0, e1, g) ⟨Nat.zero_le _, hM.weak fun _ _ h => ⟨h, fun x hx => by simp at hx⟩⟩ ⟨rfl, rfl⟩ ?_
    rintro ⟨j, e2, g2⟩ ⟨hj0, hM2⟩
    simp only at hj0 hM2
    refine And.intro (fun h3 => ?_) fun h3 => ?_
    rotate_left
    · have hje : j = t.acts[a].effs.length := by have := ge_of_dec h3; omega
      refine And.intro (by omega) (And.intro (by omega) ?_)
      refine Exists.intro (a + 1, e2, g2) (And.intro (by show t.acts.length - (a + 1) < t.acts.length - a; omega) (And.intro ⟨ha, hM2.weak fun _ _ h b B hb hB => ?_⟩ (And.intro rfl rfl)))
      rw [hje, List.take_length] at h
      rcases Nat.lt_or_ge b a with hlt | hge
      · exact h.1 b B hlt hB
      · have : b = a := by omega
        subst this
        rw [hAx] at hB; cases hB
        exact h.2
    have hj : j < t.acts[a].effs.length := lt_of_dec h3
    have hem : t.acts[a].effs[j] ∈ t.acts[a].effs := List.getElem_mem hj
    have hwl := cond_len ((task_pre ht ha).2 _ hem) (by omega)
    have hlen2 : e2.length = 2 * (t.facts.map tS).length := by rw [hM2.bi.len, hfl]
    have hkr := code_range (K.lit _ hAm _ hem)
    have hk : codeN t.acts[a].effs[j].lit < e2.length := by rw [hM2.bi.len]; unfold codeN; omega
    refine And.intro (by omega) (Exists.intro _ (And.intro (get_map hj) ?_))
    refine SpecP.mono (f36_spec t.acts[a].pn t.acts[a].effs[j].nil t.acts[a].pre t.acts[a].effs[j].when_ hpl hwl []) ?_
    rintro _ _ ⟨rfl, rfl⟩
    have lend : e2.map tI = ((e2.map tI).drop 0).take (2 * (t.facts.map tS).length) := by rw [List.drop_zero, List.take_of_length_le (by simp [hlen2])]
    have lend2 : 0 + 2 * (t.facts.map tS).length ≤ (e2.map tI).length := by simp [hlen2]
    have hlL : ∀ x ∈ dedL (t.acts[a].pre ++ t.acts[a].effs[j].when_), big x.fact ∧ 0 ≤ codeI x ∧ codeI x < e2.length := fun x hx => by
      have hx2 : litIn t.facts.length x := by
        rcases List.mem_append.1 (mem_dedL hx) with hx | hx
        · exact K.pre _ hAm x hx
        · exact K.whn _ hAm _ hem x hx
      have := code_range hx2
      exact ⟨big_in K hx2, this.1, by rw [hM2.bi.len]; omega⟩
    have hfar := fun q => (hM2.bi.low q).2
    refine Exists.intro _ (And.intro lend (And.intro lend2 ?_))
    refine SpecP.mono (f34_spec false (dedL (t.acts[a].pre ++ t.acts[a].effs[j].when_)).isEmpty add e2 (dedL (t.acts[a].pre ++ t.acts[a].effs[j].when_)) hlL hfar _) ?_
    rintro r0 ro0 ⟨hval, rfl⟩
    have hkc : codeI t.acts[a].effs[j].lit = ((codeN t.acts[a].effs[j].lit : Nat) : Int) := code_cast (K.lit _ hAm _ hem)
    have hge : (e2.map tI)[0 + (codeI t.acts[a].effs[j].lit).toNat]? = some (tI (ev e2 (codeN t.acts[a].effs[j].lit))) := by rw [hkc]; exact getI hk
    have hkb : codeI t.acts[a].effs[j].lit < ((2 * (t.facts.map tS).length : Nat) : Int) := by omega
    have hnext : ∀ (e3 : List Int) (g3 : Bool), MidE t s add e e3 g3 ((∀ (b : Nat) (A : Actn), b < a → t.acts[b]? = some A → ∀ x ∈ A.effs, EfOK add e A x) ∧ ∀ x ∈ t.acts[a].effs.take j, EfOK add e t.acts[a] x) → (g3 = false → e3 = e → EfOK add e t.acts[a] t.acts[a].effs[j]) →
        MidE t s add e e3 g3 ((∀ (b : Nat) (A : Actn), b < a → t.acts[b]? = some A → ∀ x ∈ A.effs, EfOK add e A x) ∧ ∀ x ∈ t.acts[a].effs.take (j + 1), EfOK add e t.acts[a] x) := fun e3 g3 h hx => h.weak fun hg he hp => ⟨hp.1, fun x hxm => by
      rw [List.take_add_one, List.getElem?_eq_getElem hj] at hxm
      rcases List.mem_append.1 hxm with hxm | hxm
      · exact hp.2 x hxm
      · simp at hxm; subst hxm; exact hx hg he⟩
    cases hgb : gotB e2 (dedL (t.acts[a].pre ++ t.acts[a].effs[j].when_))
    · rw [valueR, if_neg (by rw [hgb]; decide)] at hval
      subst hval
      refine And.intro ⟨trivial, trivial, trivial⟩ (And.intro trivial ?_)
      refine And.intro (fun h => by cases h) fun _ => ?_
      refine And.intro (by omega) (And.intro (by omega) ?_)
      refine SpecP.mono (f45_spec t.acts[a].effs[j].lit (big_in K (K.lit _ hAm _ hem)) []) ?_
      rintro _ _ ⟨rfl, rfl⟩
      refine And.intro (by omega) (And.intro (by omega) ?_)
      exact Exists.intro (j + 1, e2, g2) (And.intro (by show t.acts[a].effs.length - (j + 1) < t.acts[a].effs.length - j; omega) (And.intro ⟨hj, hnext e2 g2 hM2 fun _ he hg => by rw [← he] at hg; rw [hg] at hgb; cases hgb⟩ (And.intro rfl rfl)))
    · rw [valueR, if_pos hgb] at hval
      subst hval
      have hcn : 0 ≤ comb add e2 ((dedL (t.acts[a].pre ++ t.acts[a].effs[j].when_)).map codeN) ∧ comb add e2 ((dedL (t.acts[a].pre ++ t.acts[a].effs[j].when_)).map codeN) ≤ farI := ⟨comb_nonneg .., comb_le_far hfar _⟩
      have hcn2 := hcn.2
      unfold farI at hcn2
      have hv : (if 1099511627777 < comb add e2 ((dedL (t.acts[a].pre ++ t.acts[a].effs[j].when_)).map codeN) + t.acts[a].cost then 1099511627777 else comb add e2 ((dedL (t.acts[a].pre ++ t.acts[a].effs[j].when_)).map codeN) + t.acts[a].cost) = min farI (comb add e2 ((dedL (t.acts[a].pre ++ t.acts[a].effs[j].when_)).map codeN) + t.acts[a].cost) := by unfold farI; split <;> omega
      refine And.intro ⟨trivial, trivial, trivial⟩ (And.intro trivial ?_)
      refine And.intro (fun _ => ?_) fun h => by cases h
      refine And.intro (by omega) (And.intro (by omega) ?_)
      refine SpecP.mono (f45_spec t.acts[a].effs[j].lit (big_in K (K.lit _ hAm _ hem)) []) ?_
      rintro _ _ ⟨rfl, rfl⟩
      refine And.intro hkr.1 (And.intro hkb (Exists.intro _ (And.intro hge ?_)))
      have hrow : ∀ z : Int, (e2.set (codeN t.acts[a].effs[j].lit) z).map tI = (e2.map tI).set (0 + (codeI t.acts[a].effs[j].lit).toNat) (tI z) := fun z => by rw [hkc]; exact setI.symm
      refine And.intro (fun h4 => ?_) fun h4 => ?_
      · refine And.intro hkr.1 (And.intro hkb (Exists.intro _ (And.intro hge (And.intro (Nat.le_refl 1) ?_))))
        refine And.intro (by omega) (And.intro (by omega) ?_)
        refine Exists.intro (j + 1, e2.set (codeN t.acts[a].effs[j].lit) (if 1099511627777 < comb add e2 ((dedL (t.acts[a].pre ++ t.acts[a].effs[j].when_)).map codeN) + t.acts[a].cost then 1099511627777 else comb add e2 ((dedL (t.acts[a].pre ++ t.acts[a].effs[j].when_)).map codeN) + t.acts[a].cost), true) (And.intro (by show t.acts[a].effs.length - (j + 1) < t.acts[a].effs.length - j; omega) (And.intro ⟨hj, hnext _ _ (hM2.set ht hAx hem hgb hv (.inl (of_decide_eq_true h4))) fun hg => by cases hg⟩ ⟨rfl, ?_⟩))
        show _ = (⟨out, [(24, .box (cellsTask t)), (168, rowI (e2.set (codeN t.acts[a].effs[j].lit) (if 1099511627777 < comb add e2 ((dedL (t.acts[a].pre ++ t.acts[a].effs[j].when_)).map codeN) + t.acts[a].cost then 1099511627777 else comb add e2 ((dedL (t.acts[a].pre ++ t.acts[a].effs[j].when_)).map codeN) + t.acts[a].cost))), (88, .box (cellsAct t.acts[a]))]⟩ : St)
        simp only [rowI, hrow]
        rfl
      have h4' : ¬ ev e2 (codeN t.acts[a].effs[j].lit) < 0 := of_decide_eq_false h4
      refine And.intro hkr.1 (And.intro hkb (Exists.intro _ (And.intro hge ?_)))
      refine And.intro (fun h5 => ?_) fun h5 => ?_
      · refine And.intro hkr.1 (And.intro hkb (Exists.intro _ (And.intro hge (And.intro (Nat.le_refl 1) ?_))))
        refine And.intro (by omega) (And.intro (by omega) ?_)
        refine Exists.intro (j + 1, e2.set (codeN t.acts[a].effs[j].lit) (if 1099511627777 < comb add e2 ((dedL (t.acts[a].pre ++ t.acts[a].effs[j].when_)).map codeN) + t.acts[a].cost then 1099511627777 else comb add e2 ((dedL (t.acts[a].pre ++ t.acts[a].effs[j].when_)).map codeN) + t.acts[a].cost), true) (And.intro (by show t.acts[a].effs.length - (j + 1) < t.acts[a].effs.length - j; omega) (And.intro ⟨hj, hnext _ _ (hM2.set ht hAx hem hgb hv (.inr (of_decide_eq_true h5))) fun hg => by cases hg⟩ ⟨rfl, ?_⟩))
        show _ = (⟨out, [(24, .box (cellsTask t)), (168, rowI (e2.set (codeN t.acts[a].effs[j].lit) (if 1099511627777 < comb add e2 ((dedL (t.acts[a].pre ++ t.acts[a].effs[j].when_)).map codeN) + t.acts[a].cost then 1099511627777 else comb add e2 ((dedL (t.acts[a].pre ++ t.acts[a].effs[j].when_)).map codeN) + t.acts[a].cost))), (88, .box (cellsAct t.acts[a]))]⟩ : St)
        simp only [rowI, hrow]
        rfl
      · have h5' : ¬ (if 1099511627777 < comb add e2 ((dedL (t.acts[a].pre ++ t.acts[a].effs[j].when_)).map codeN) + t.acts[a].cost then 1099511627777 else comb add e2 ((dedL (t.acts[a].pre ++ t.acts[a].effs[j].when_)).map codeN) + t.acts[a].cost) < ev e2 (codeN t.acts[a].effs[j].lit) := of_decide_eq_false h5
        refine And.intro (by omega) (And.intro (by omega) ?_)
        exact Exists.intro (j + 1, e2, g2) (And.intro (by show t.acts[a].effs.length - (j + 1) < t.acts[a].effs.length - j; omega) (And.intro ⟨hj, hnext e2 g2 hM2 fun _ he _ => ⟨by rw [← he]; omega, by rw [← he, ← hv]; omega⟩⟩ (And.intro rfl rfl)))

end Go.Fw

/- What the reference's functions do: estimates of lists, what is reached, lists in the relaxation. -/
namespace Go.Fw
open Go Go.Proofs Heap
set_option maxRecDepth 10000

theorem f35_spec (t : Task) (n1 add : Bool) (s : List Int) (ht : isB t = true) (out : List Fr) : SpecP Try.prog 35 [.task t, .ints n1 s, .bool add] out fun r ro =>
    ∃ e, IsE (epOf t s) add e ∧ (∀ k, ev e k ≤ farI) ∧ r = .ints false e ∧ ro = [] :=
  (f35o_spec t n1 add s ht out).close fun r ro ⟨e, h1, h2, h3, h4⟩ => by
    refine ⟨_, ?_, e, h1, h2, rfl, rfl⟩
    rw [h3, h4]
    have := ClsV.row (ro := [(168, rowI e)]) 168 3 1 0 (e.map tI).length (e.map tI) (by rw [look_cons, if_pos rfl]) (by omega)
    rw [← take_all] at this
    rw [List.length_map] at this
    exact this
theorem f12_spec (t : Task) (n1 n2 add : Bool) (s : List Int) (l : List Lit) (ht : isB t = true) (hl : ∀ x ∈ l, litIn t.facts.length x) (hll : l.length ≤ 1000000000) (out : List Fr) : SpecP Try.prog 12 [.task t, .ints n1 s, .lits n2 l, .bool add] out fun r ro =>
    ∃ e, IsE (epOf t s) add e ∧ (∀ k, ev e k ≤ farI) ∧ r = valueR add e (dedL l) ∧ ro = [] := by
  refine spec_body cx_ok [] [] (fn := Try.f12) (by kernel_rfl) rfl (by kernel_rfl) rfl (by unfold FnOK; kernel_rfl) fun hok => ?_
  have K := task_ok ht
  refine SpecP.mono (f35_spec t n1 add s ht []) ?_
  rintro _ _ ⟨e, he, hfar, rfl, rfl⟩
  refine SpecP.mono (f36n_spec n2 l hll []) ?_
  rintro _ _ ⟨rfl, rfl⟩
  have hlL : ∀ x ∈ dedL l, big x.fact ∧ 0 ≤ codeI x ∧ codeI x < e.length := fun x hx => by
    have hx2 := hl x (mem_dedL hx)
    have := code_range hx2
    exact ⟨big_in K hx2, this.1, by rw [he.len]; exact this.2⟩
  refine SpecP.mono (f34_spec false (dedL l).isEmpty add e (dedL l) hlL hfar []) ?_
  rintro r0 ro0 ⟨hval, rfl⟩
  cases hg : gotB e (dedL l)
  · have hval' := hval
    rw [valueR, if_neg (by rw [hg]; decide)] at hval
    subst hval
    refine And.intro (fun h => by cases h) fun _ => ?_
    exact Exists.intro [] ⟨e, he, hfar, hval', rfl⟩
  · have hval' := hval
    rw [valueR, if_pos hg] at hval
    subst hval
    refine And.intro (fun _ => ?_) fun h => by cases h
    exact Exists.intro [] ⟨e, he, hfar, hval', rfl⟩

def kp17 : Kp := [(3, ([5, 10, 11, 12], [216]))]
theorem f17o_spec (t : Task) (n1 : Bool) (s : List Int) (ht : isB t = true) (out : List Fr) : SpecP Try.prog 17 [.task t, .ints n1 s] out fun r ro =>
    ∃ e, IsE (epOf t s) false e ∧ r = accV 216 2 ((litsOf e (2 * t.facts.length)).map tLit) ∧ ro = accO 216 51 2 ((litsOf e (2 * t.facts.length)).map tLit) := by
  refine spec_body cx_ok kp17 [] (fn := Try.f17) (by kernel_rfl) rfl (by kernel_rfl) rfl (by unfold FnOK; kernel_rfl) fun hok => ?_
  have K := task_ok ht
  have hN := K.facts
  refine SpecP.mono (f35_spec t n1 false s ht []) ?_
  rintro _ _ ⟨e, he, hfar, rfl, rfl⟩
  have hlen : e.length = 2 * t.facts.length := he.len
  refine LoopW.mk (Nat × List Lit) (fun p => p.1 ≤ e.length ∧ p.2 = litsOf e p.1) (fun p => [(5, accV 216 2 (p.2.map tLit)), (10, .ints false e), (11, .int (e.map tI).length), (12, .int p.1)])
    (fun p => ⟨out, accO 216 51 2 (p.2.map tLit)⟩) (fun p => e.length - p.1) (0, []) ⟨Nat.zero_le _, rfl⟩ ⟨rfl, rfl⟩ ?_
  rintro ⟨i, M⟩ ⟨hi0, hM⟩
  simp only at hi0 hM
  have hMl := litsOf_len e i
  rw [← hM] at hMl
  cases M
  case' nil => let M2 : List Lit := []
  case' cons x r => let M2 : List Lit := x :: r
  all_goals
    refine And.intro (fun h1 => ?_) fun h1 => ?_
    rotate_left
    · have hi : i = e.length := by have := ge_of_dec h1; have hi0' : i ≤ e.length := hi0; omega
      rw [hi, hlen] at hM
      exact Exists.intro [216] ⟨e, he, by rw [← hM]; rfl, by rw [← hM]; rfl⟩
    have hi : i < e.length := lt_of_dec h1
    have hgv : (e.map tI)[((i : Nat) : Int).toNat]? = some (tI (ev e i)) := by
      have := getI hi
      rw [Nat.zero_add] at this; exact this
    refine And.intro (by omega) (Exists.intro _ (And.intro hgv ?_))
    refine And.intro (fun h2 => ?_) fun h2 => ?_
    rotate_left
    · have h2' : ¬ ev e i ≥ 0 := of_decide_eq_false h2
      refine And.intro (by show (-9223372036854775808 : Int) ≤ (i : Int) + 1; omega) (And.intro (by show (i : Int) + 1 ≤ 9223372036854775807; omega) ?_)
      refine Exists.intro (i + 1, M2) (And.intro (by show e.length - (i + 1) < e.length - i; omega) (And.intro ⟨hi, ?_⟩ (And.intro rfl rfl)))
      show M2 = _
      rw [litsOf_succ, if_neg h2', List.append_nil]; exact hM
    have h2' : 0 ≤ ev e i := of_decide_eq_true h2
    have e3 : (i : Int).tdiv 2 = ((i / 2 : Nat) : Int) := by rw [Int.tdiv_eq_ediv_of_nonneg (by omega)]; omega
    refine And.intro (by decide) (And.intro (by show (-9223372036854775808 : Int) ≤ (i : Int).tdiv 2; rw [e3]; omega) (And.intro (by show (i : Int).tdiv 2 ≤ 9223372036854775807; rw [e3]; omega) (And.intro (by decide) ?_)))
    have hl4 : ∀ X : List T, ((M2.map tLit) ++ [X]).length ≤ 100000 := fun X => by
      have h3 : M2.length ≤ i := hMl
      rw [List.length_append, List.length_map, List.length_singleton]; omega
    have hnew : M2 ++ [litI (i : Int)] = litsOf e (i + 1) := by rw [litsOf_succ, if_pos h2', ← hM]
    refine And.intro (fun h3 => ?_) fun h3 => ?_
    all_goals
      have hlit : tLit (litI (i : Int)) = [.v (.int .i64 ((i : Int).tdiv 2)), .v (.bool _)] := congrArg (fun b => [T.v (.int .i64 ((i : Int).tdiv 2)), T.v (.bool b)]) h3
      repeat first
        | refine And.intro (Nat.le_of_ble_eq_true rfl) ?_
        | refine And.intro rfl ?_
        | refine And.intro (Nat.le_trans (Nat.mul_le_mul_right _ (hl4 _)) (Nat.le_of_ble_eq_true rfl)) ?_
        | refine And.intro (Nat.le_trans (hl4 _) (Nat.le_of_ble_eq_true rfl)) ?_
      refine And.intro (by show (-9223372036854775808 : Int) ≤ (i : Int) + 1; omega) (And.intro (by show (i : Int) + 1 ≤ 9223372036854775807; omega) ?_)
      first
        | (refine Exists.intro (i + 1, [litI (i : Int)]) (And.intro (by show e.length - (i + 1) < e.length - i; omega) (And.intro ⟨hi, hnew⟩ ?_))
           simp only [List.map_cons, List.map_nil, hlit]
           exact And.intro rfl rfl)
        | (refine Exists.intro (i + 1, x :: (r ++ [litI (i : Int)])) (And.intro (by show e.length - (i + 1) < e.length - i; omega) (And.intro ⟨hi, hnew⟩ ?_))
           simp only [List.map_cons, List.map_append, List.map_nil, hlit]
           exact And.intro rfl rfl)
theorem f17_spec (t : Task) (n1 : Bool) (s : List Int) (ht : isB t = true) (out : List Fr) : SpecP Try.prog 17 [.task t, .ints n1 s] out fun r ro =>
    ∃ e, IsE (epOf t s) false e ∧ r = .lits (litsOf e (2 * t.facts.length)).isEmpty (litsOf e (2 * t.facts.length)) ∧ ro = [] :=
  (f17o_spec t n1 s ht out).close fun r ro ⟨e, h0, h1, h2⟩ => by
    refine ⟨_, ?_, e, h0, rfl, rfl⟩
    rw [h1]
    have := acc_cls (s := 216) (e := 51) (sz := 2) (es := (litsOf e (2 * t.facts.length)).map tLit) (ro := ro) fun x r he => by rw [h2, he]; exact look_cons .. |>.trans (if_pos rfl)
    rw [show (litsOf e (2 * t.facts.length)).isEmpty = ((litsOf e (2 * t.facts.length)).map tLit).isEmpty by cases litsOf e (2 * t.facts.length) <;> rfl]
    exact this
theorem f18c_spec (t : Task) (n1 : Bool) (s : List Int) (out : List Fr) : SpecP Try.prog 18 [.task t, .ints n1 s] out fun r ro =>
    ((fineI t s ≠ 0 ∧ r = .tup [.lits true [], .int (fineI t s)]) ∨ (fineI t s = 0 ∧ ∃ d, EstOK t s false d ∧ r = .tup [.lits (litsOf d.v (2 * t.facts.length)).isEmpty (litsOf d.v (2 * t.facts.length)), .int 0])) ∧ ro = [] :=
  (f18_spec t n1 s out).close fun r ro h => by
    rcases h with ⟨h0, rfl, rfl⟩ | ⟨h0, d, hd, rfl, h2⟩
    · exact ⟨_, .pair _ _ _ _ (.nil 0 2) (.same _), .inl ⟨h0, rfl⟩, rfl⟩
    · refine ⟨_, .pair _ _ _ _ ?_ (.same _), .inr ⟨h0, d, hd, rfl⟩, rfl⟩
      have := acc_cls (s := 288) (e := 51) (sz := 2) (es := (litsOf d.v (2 * t.facts.length)).map tLit) (ro := ro) fun x r he => by rw [h2, he]; exact look_cons .. |>.trans (if_pos rfl)
      rw [show (litsOf d.v (2 * t.facts.length)).isEmpty = ((litsOf d.v (2 * t.facts.length)).map tLit).isEmpty by cases litsOf d.v (2 * t.facts.length) <;> rfl]
      exact this
theorem f14c_spec (t : Task) (n1 n2 : Bool) (s : List Int) (l : List Lit) (hll : l.length ≤ 1000000000) (out : List Fr) : SpecP Try.prog 14 [.task t, .ints n1 s, .lits n2 l] out fun r ro =>
    ((askI t s l ≠ 0 ∧ r = .tup [.ints true [], .bool false, .int (askI t s l)]) ∨ (askI t s l = 0 ∧ ∃ d, EstOK t s false d ∧
      ((gotB d.v l = false ∧ r = .tup [.ints true [], .bool false, .int 0]) ∨ (gotB d.v l = true ∧ ∃ p, PlanOK t s d l p ∧ r = .tup [.ints p.isEmpty p, .bool true, .int 0])))) ∧ ro = [] :=
  (f14_spec t n1 n2 s l hll out).close fun r ro h => by
    rcases h with ⟨h0, rfl, rfl⟩ | ⟨h0, d, hd, ⟨h1, rfl, rfl⟩ | ⟨h1, p, hp, rfl, h2⟩⟩
    · exact ⟨_, .triple _ _ _ _ _ _ (.nil 0 1) (.same _) (.same _), .inl ⟨h0, rfl⟩, rfl⟩
    · exact ⟨_, .triple _ _ _ _ _ _ (.nil 0 1) (.same _) (.same _), .inr ⟨h0, d, hd, .inl ⟨h1, rfl⟩⟩, rfl⟩
    · refine ⟨_, .triple _ _ _ _ _ _ ?_ (.same _) (.same _), .inr ⟨h0, d, hd, .inr ⟨h1, p, hp, rfl⟩⟩, rfl⟩
      have := acc_cls (s := 744) (e := 3) (sz := 1) (es := p.map tI) (ro := ro) fun x r he => by rw [h2, he]; exact look_cons .. |>.trans (if_pos rfl)
      rw [show p.isEmpty = (p.map tI).isEmpty by cases p <;> rfl]
      exact this

/-! ### Lists in the relaxation -/
def kp44 : Kp := [(2, ([0, 7, 8, 9], []))]
theorem f44_spec (n1 n2 : Bool) (b : List Bool) (l : List Lit) (hl : ∀ x ∈ l, inB b x) (out : List Fr) :
    SpecP Try.prog 44 [.bools n1 b, .lits n2 l] out fun r ro => r = .bool (setHas b l) ∧ ro = [] := by
  refine spec_body cx_ok kp44 [] (fn := Try.f44) (by kernel_rfl) rfl (by kernel_rfl) rfl (by unfold FnOK; kernel_rfl) fun hok => ?_
  have hmx := le_max hok.2.1.1
  refine LoopW.mk Nat (fun i => i ≤ l.length ∧ (l.take i).all (fun x => b.getD (codeI x).toNat false) = true) (fun i => [(0, .bools n1 b), (7, .lits n2 l), (8, .int (l.map tLit).length), (9, .int i)]) (fun _ => ⟨out, []⟩) (fun i => l.length - i) 0 ⟨Nat.zero_le _, rfl⟩ ⟨rfl, rfl⟩ fun i hI => ?_
  refine And.intro (fun h1 => ?_) fun h1 => ?_
  · have hi := lt_of_dec h1
    obtain ⟨hbig, hc0, hc1⟩ := hl l[i] (List.getElem_mem hi)
    have hcl : (codeI l[i]).toNat < b.length := by omega
    refine And.intro (by omega) (Exists.intro _ (And.intro (get_map hi) ?_))
    refine SpecP.mono (f45_spec l[i] hbig []) ?_
    rintro _ _ ⟨rfl, rfl⟩
    refine And.intro hc0 (Exists.intro (tB b[(codeI l[i]).toNat]) (And.intro (by simp [hcl]) ?_))
    refine And.intro (fun h2 => ?_) fun h2 => ?_
    · refine And.intro (by omega) (And.intro (by omega) ?_)
      exact Exists.intro (i + 1) (And.intro (by show l.length - (i + 1) < l.length - i; omega) (And.intro ⟨hi, all_step hi hI.2 (by simp [hcl, h2])⟩ (And.intro rfl rfl)))
    · exact Exists.intro [] (ret_bool (all_false hi (by simp [hcl, h2])) rfl)
  · exact Exists.intro [] (ret_bool (all_end (ge_of_dec h1) hI.2) rfl)

end Go.Fw

/- What the reference's functions do: lists in the relaxation. -/
namespace Go.Fw
open Go Go.Proofs Heap
set_option maxRecDepth 10000

/-- The same, rows given away at the calls of contains. -/
def cxz : Ctx := { cx with frz := [(44, 1)] }
theorem cxz_ok : cxz.OK Try.prog := ⟨cx_ok.mixed, cx_ok.tys, cx_ok.eqs, cx_ok.exts, cx_ok.srt⟩
theorem f44n_spec (n2 : Bool) (l : List Lit) (hl : ∀ x ∈ l, inB [] x) (out : List Fr) : SpecP Try.prog 44 [.t (.sl true 0 []), .lits n2 l] out fun r ro => r = .bool (setHas [] l) ∧ ro = [] :=
  SpecP.conv (args' := [.bools true [], .lits n2 l]) (fun β RO w vals hv => ⟨hv.1, fun i z v hz hvz => by
    match i with
    | 0 => simp at hz; subst hz; exact nil_sz _ _ _ _ (hv.2 0 _ v rfl hvz)
    | 1 => exact hv.2 1 z v hz hvz
    | i + 2 => simp at hz⟩) (f44_spec true n2 [] l hl out)
def iniF (s : List Int) (n i : Nat) : List Bool := (List.range n).map fun k => if k < i then holdsL s k else false
theorem iniF_len (s : List Int) (n i : Nat) : (iniF s n i).length = n := by simp [iniF]
theorem iniF_set (s : List Int) {n i : Nat} (h : i < n) : (iniF s n i).set i (holdsL s i) = iniF s n (i + 1) := by
  refine List.ext_getElem? fun k => ?_
  rw [List.getElem?_set]
  simp only [iniF, List.getElem?_map, List.length_map, List.length_range]
  by_cases hk : i = k
  · subst hk; simp [h]
  · rw [if_neg hk]
    by_cases hkn : k < n
    · simp only [List.getElem?_range hkn, Option.map_some]
      refine congrArg some ?_
      by_cases h1 : k < i
      · simp only [h1, if_true, show k < i + 1 by omega]
      · simp only [h1, if_false, show ¬ k < i + 1 by omega]
    · rw [List.getElem?_eq_none (by simpa using hkn)]; rfl
theorem iniF_end (t : Task) (s : List Int) : iniF s (2 * t.facts.length) (2 * t.facts.length) = iniB t s := by
  unfold iniF iniB
  refine List.map_congr_left fun k hk => ?_
  rw [if_pos (List.mem_range.1 hk)]
/-- Where the literals' truths lie: at first, none at all, later on. -/
def rowB (m : Nat) (N : Nat) : LV := match m with
  | 0 => .osl (.cur 160) 1 0 N
  | 1 => .t (.sl true 0 [])
  | _ => .osl (.cur 432) 1 0 N
def rowF (m : Nat) (b : List Bool) : Fr := match m with
  | 0 => [(160, .row 4 1 (b.map tB))]
  | 1 => []
  | _ => [(432, .row 4 1 (b.map tB))]
def kp16 : Kp := [(3, ([1, 2, 3, 4, 9, 22, 23], [32, 160])), (8, ([3, 4, 9, 38, 39, 40], [32, 160, 432])), (14, ([3, 4, 9, 13, 38, 39, 40, 60, 61, 62], [32, 432]))]
set_option maxHeartbeats 2000000 in
theorem f16_spec (t : Task) (n1 n2 n3 : Bool) (s p : List Int) (l : List Lit) (ht : isB t = true) (hp : ∀ x ∈ p, 0 ≤ x ∧ x < (t.acts.length : Int)) (hl : ∀ x ∈ l, litIn t.facts.length x) (hpl : p.length ≤ 1000000000) (out : List Fr) :
    SpecP Try.prog 16 [.task t, .ints n1 s, .ints n2 p, .lits n3 l] out fun r ro => r = .bool (takesB t s p l) ∧ ro = [] := by
  refine spec_body cxz_ok kp16 [] (fn := Try.f16) (by kernel_rfl) rfl (by kernel_rfl) rfl (by unfold FnOK; kernel_rfl) fun hok => ?_
  have K := task_ok ht
  have hN := K.facts
  have hfl : (t.facts.map tS).length = t.facts.length := List.length_map ..
  refine And.intro (by omega) (And.intro (by omega) ?_)
  refine And.intro rfl (And.intro (by omega) (And.intro (by show (2 * ((t.facts.map tS).length : Int)) * ((1 : Nat) : Int) ≤ _; omega) (And.intro (by omega) ?_)))
  refine LoopW.mk Nat (fun i => i ≤ 2 * (t.facts.map tS).length) (fun i => [(1, .ints n1 s), (2, .ints n2 p), (3, .lits n3 l), (4, .ptr (.cur 32) 0), (9, .osl (.cur 160) 1 0 (2 * (t.facts.map tS).length)), (22, .int ((2 * (t.facts.map tS).length : Nat) : Int)), (23, .int i)])
    (fun i => ⟨out, [(32, .box (cellsTask t)), (160, .row 4 1 ((iniF s (2 * (t.facts.map tS).length) i).map tB))]⟩) (fun i => 2 * (t.facts.map tS).length - i) 0 (Nat.zero_le _) ⟨rfl, ?_⟩ ?_
  · show (⟨out, [(32, .box (cellsTask t)), (160, .row 4 1 (List.replicate (2 * (t.facts.map tS).length) (tB false)))]⟩ : St) = _
    have e : (iniF s (2 * (t.facts.map tS).length) 0).map tB = List.replicate (2 * (t.facts.map tS).length) (tB false) := by
      refine List.ext_getElem (by simp [iniF]) fun k h1 h2 => by simp [iniF]
    simp only [e]
  intro i hi0
  refine And.intro (fun h1 => ?_) fun h1 => ?_
  · have hi : i < 2 * (t.facts.map tS).length := by
      have h1' : (i : Int) < ((2 * (t.facts.map tS).length : Nat) : Int) := of_decide_eq_true h1
      omega
    have hil : i < (iniF s (2 * (t.facts.map tS).length) i).length := by rw [iniF_len]; exact hi
    have e3 : (i : Int).tdiv 2 = ((i / 2 : Nat) : Int) := by rw [Int.tdiv_eq_ediv_of_nonneg (by omega)]; omega
    have e4 : (i : Int).tmod 2 = ((i % 2 : Nat) : Int) := by rw [Int.tmod_eq_emod_of_nonneg (by omega)]; omega
    have hh : holdsL s i = (hasB s ((i : Int).tdiv 2) != decide (i % 2 = 1)) := by unfold holdsL; rw [e3]
    have hm1 : ∀ b : Bool, ((i : Int).tmod 2 == 0) = b → decide (i % 2 = 1) = !b := fun b hb => by
      rw [e4] at hb
      rw [← hb]
      rcases Nat.mod_two_eq_zero_or_one i with h | h <;> rw [h] <;> rfl
    refine And.intro (by decide) (And.intro (by show (-9223372036854775808 : Int) ≤ (i : Int).tdiv 2; rw [e3]; omega) (And.intro (by show (i : Int).tdiv 2 ≤ 9223372036854775807; rw [e3]; omega) ?_))
    refine SpecP.mono (f43_spec n1 s ((i : Int).tdiv 2) []) ?_
    rintro _ _ ⟨rfl, rfl⟩
    have hset : (iniF s (2 * (t.facts.map tS).length) (i + 1)).map tB = ((iniF s (2 * (t.facts.map tS).length) i).map tB).set (0 + ((i : Nat) : Int).toNat) (tB (holdsL s i)) := by rw [setB, iniF_set s hi]
    have hib : (i : Int) < ((2 * (t.facts.map tS).length : Nat) : Int) := by omega
    have hgb : ((iniF s (2 * (t.facts.map tS).length) i).map tB)[0 + ((i : Nat) : Int).toNat]? = some (tB ((iniF s (2 * (t.facts.map tS).length) i).getD i false)) := getB hil
    have fin : ∀ v : Bool, holdsL s i = v → (iniF s (2 * (t.facts.map tS).length) (i + 1)).map tB = ((iniF s (2 * (t.facts.map tS).length) i).map tB).set (0 + ((i : Nat) : Int).toNat) (tB v) := fun v hv => by rw [hset, hv]
    refine And.intro (fun h2 => ?_) fun h2 => ?_
    · refine And.intro (by decide) ?_
      refine And.intro (fun h3 => ?_) fun h3 => ?_
      · have h3' := hm1 _ h3
        rw [h2, h3'] at hh
        refine And.intro (fun h4 => ?_) fun h4 => ?_
        · refine And.intro (by omega) (And.intro hib (Exists.intro _ (And.intro hgb (And.intro (Nat.le_refl 1) ?_))))
          refine And.intro (by omega) (And.intro (by omega) ?_)
          refine Exists.intro (i + 1) (And.intro (by show 2 * (t.facts.map tS).length - (i + 1) < 2 * (t.facts.map tS).length - i; omega) (And.intro hi ⟨rfl, ?_⟩))
          show _ = (⟨out, [(32, .box (cellsTask t)), (160, .row 4 1 ((iniF s (2 * (t.facts.map tS).length) (i + 1)).map tB))]⟩ : St)
          rw [fin true (by rw [hh]; rfl)]; rfl
        · exact absurd h4 (by decide)
      · have h3' := hm1 _ h3
        rw [h2, h3'] at hh
        refine And.intro (fun h4 => ?_) fun h4 => ?_
        · exact absurd h4 (by decide)
        · refine And.intro (by omega) (And.intro hib (Exists.intro _ (And.intro hgb (And.intro (Nat.le_refl 1) ?_))))
          refine And.intro (by omega) (And.intro (by omega) ?_)
          refine Exists.intro (i + 1) (And.intro (by show 2 * (t.facts.map tS).length - (i + 1) < 2 * (t.facts.map tS).length - i; omega) (And.intro hi ⟨rfl, ?_⟩))
          show _ = (⟨out, [(32, .box (cellsTask t)), (160, .row 4 1 ((iniF s (2 * (t.facts.map tS).length) (i + 1)).map tB))]⟩ : St)
          rw [fin false (by rw [hh]; rfl)]; rfl
    · refine And.intro (by decide) ?_
      refine And.intro (fun h3 => ?_) fun h3 => ?_
      · have h3' := hm1 _ h3
        rw [h2, h3'] at hh
        refine And.intro (fun h4 => ?_) fun h4 => ?_
        · exact absurd h4 (by decide)
        · refine And.intro (by omega) (And.intro hib (Exists.intro _ (And.intro hgb (And.intro (Nat.le_refl 1) ?_))))
          refine And.intro (by omega) (And.intro (by omega) ?_)
          refine Exists.intro (i + 1) (And.intro (by show 2 * (t.facts.map tS).length - (i + 1) < 2 * (t.facts.map tS).length - i; omega) (And.intro hi ⟨rfl, ?_⟩))
          show _ = (⟨out, [(32, .box (cellsTask t)), (160, .row 4 1 ((iniF s (2 * (t.facts.map tS).length) (i + 1)).map tB))]⟩ : St)
          rw [fin false (by rw [hh]; rfl)]; rfl
      · have h3' := hm1 _ h3
        rw [h2, h3'] at hh
        refine And.intro (fun h4 => ?_) fun h4 => ?_
        · refine And.intro (by omega) (And.intro hib (Exists.intro _ (And.intro hgb (And.intro (Nat.le_refl 1) ?_))))
          refine And.intro (by omega) (And.intro (by omega) ?_)
          refine Exists.intro (i + 1) (And.intro (by show 2 * (t.facts.map tS).length - (i + 1) < 2 * (t.facts.map tS).length - i; omega) (And.intro hi ⟨rfl, ?_⟩))
          show _ = (⟨out, [(32, .box (cellsTask t)), (160, .row 4 1 ((iniF s (2 * (t.facts.map tS).length) (i + 1)).map tB))]⟩ : St)
          rw [fin true (by rw [hh]; rfl)]; rfl
        · exact absurd h4 (by decide)
  · have hi : i = 2 * (t.facts.map tS).length := by
      have h1' : ¬ (i : Int) < ((2 * (t.facts.map tS).length : Nat) : Int) := of_decide_eq_false h1
      have : i ≤ 2 * (t.facts.map tS).length := hi0
      omega
    have hb0 : iniF s (2 * (t.facts.map tS).length) i = iniB t s := by rw [hi, hfl]; exact iniF_end t s
    rw [hb0]
    clear h1 hi0 hi hb0
    have hbl0 : (iniB t s).length = 2 * t.facts.length := by simp [iniB]
    have hNN : 2 * (t.facts.map tS).length = 2 * t.facts.length := by rw [hfl]
    rw [hNN]
    generalize hb0 : iniB t s = b0 at hbl0
    refine LoopW.mk (Nat × (List Bool × Nat)) (fun q => q.1 ≤ p.length ∧ runB t b0 (p.take q.1) = some q.2.1 ∧ q.2.2 ≤ 2 ∧ (q.2.2 = 1 → q.2.1 = [])) (fun q => [(3, .lits n3 l), (4, .ptr (.cur 32) 0), (9, rowB q.2.2 (2 * t.facts.length)), (38, .ints n2 p), (39, .int (p.map tI).length), (40, .int q.1)])
      (fun q => ⟨out, (32, .box (cellsTask t)) :: rowF q.2.2 q.2.1⟩) (fun q => p.length - q.1) (0, b0, 0) ⟨Nat.zero_le _, rfl, Nat.zero_le _, fun h => by cases h⟩ ⟨rfl, rfl⟩ ?_
    rintro ⟨i, b, m⟩ ⟨hi0, hr, hm, hm1⟩
    simp only at hi0 hr hm hm1
    have hbl : b.length = 2 * t.facts.length := (runB_len t _ _ _ hr).trans hbl0
    rcases m with _ | _ | m
    · refine And.intro (fun h1 => ?_) fun h1 => ?_
      · have hi : i < p.length := lt_of_dec h1
        have hpi := hp _ (List.getElem_mem hi)
        have hlt : (p[i]).toNat < t.acts.length := by omega
        have hpe : p[i] = (((p[i]).toNat : Nat) : Int) := by omega
        have hgp : (p.map tI)[((i : Nat) : Int).toNat]? = some (tI (((p[i]).toNat : Nat) : Int)) := by rw [← hpe]; exact get_map hi
        refine And.intro (by omega) (Exists.intro _ (And.intro hgp ?_))
        refine And.intro (by omega) (Exists.intro _ (And.intro (get_map hlt) ?_))
        have hA : t.acts[(p[i]).toNat]? = some t.acts[(p[i]).toNat] := List.getElem?_eq_getElem hlt
        have hAm : t.acts[(p[i]).toNat] ∈ t.acts := List.getElem_mem hlt
        have hgA : (t.acts.map tAct)[((((p[i]).toNat : Nat) : Int)).toNat]? = some (tAct t.acts[(p[i]).toNat]) := get_map hlt
        generalize t.acts[(p[i]).toNat] = A at hA hAm hgA
        have hE := K.effs _ hAm
        have hin : ∀ l : List Lit, (∀ x ∈ l, litIn t.facts.length x) → ∀ x ∈ l, inB b x := fun l hl x hx => (hl x hx).inB hN hbl
        have hstep : runB t b0 (p.take (i + 1)) = if setHas b A.pre then some (colN b A) else none := by
          rw [List.take_add_one, List.getElem?_eq_getElem hi]
          show runB t b0 (p.take i ++ [p[i]]) = _
          rw [runB_app, hr]
          show runB t b [p[i]] = _
          unfold runB
          rw [hA]; rfl
        have lend : b.map tB = ((b.map tB).drop 0).take (2 * t.facts.length) := by rw [List.drop_zero, List.take_of_length_le (by simp [hbl])]
        have lend2 : 0 + 2 * t.facts.length ≤ (b.map tB).length := by simp [hbl]
        refine Exists.intro _ (And.intro lend (And.intro lend2 ?_))
        refine Exists.intro _ (And.intro lend (And.intro lend2 ?_))
        refine Exists.intro _ (And.intro lend (And.intro lend2 ?_))
        refine SpecP.mono (f44_spec false A.pn b A.pre (hin _ (K.pre _ hAm)) _) ?_
        rintro _ _ ⟨rfl, rfl⟩
        cases hpre : setHas b A.pre
        · refine And.intro (fun h => by cases h) fun _ => ?_
          refine Exists.intro [] (ret_bool ?_ rfl)
          have hno : runB t (iniB t s) p = none := by
            rw [hb0, ← List.take_append_drop (i + 1) p, runB_app, hstep, hpre]; rfl
          unfold takesB; rw [hno]
        refine And.intro (fun _ => ?_) fun h => by cases h
        rw [hpre, if_pos rfl] at hstep
        cases b with
        | nil =>
          have hnoE : A.effs = [] := by
            cases he : A.effs with
            | nil => rfl
            | cons e r =>
              have := code_range (K.lit _ hAm e (by rw [he]; exact List.mem_cons_self))
              have h0 : 2 * t.facts.length = 0 := hbl.symm
              omega
          refine And.intro (by omega) (Exists.intro _ (And.intro hgA ?_))
          refine LoopW.mk Nat (fun j => j = 0) (fun j => [(3, .lits n3 l), (4, .ptr (.cur 32) 0), (9, .t (.sl false 1 [])), (13, .t (.sl true 0 [])), (38, .ints n2 p), (39, .int (p.map tI).length), (40, .int i), (60, .t (.sl A.en 3 (A.effs.map tEff))), (61, .int (A.effs.map tEff).length), (62, .int j)])
            (fun _ => ⟨out, [(32, .box (cellsTask t))]⟩) (fun j => A.effs.length - j) 0 rfl ⟨rfl, rfl⟩ fun j hj => ?_
          refine And.intro (fun h2 => ?_) fun h2 => ?_
          · have hj' := lt_of_dec h2
            rw [hnoE] at hj'; exact absurd hj' (Nat.not_lt_zero _)
          refine And.intro (by omega) (And.intro (by omega) ?_)
          have hcol : colN [] A = [] := by unfold colN adds; rw [hnoE]; rfl
          refine Exists.intro (i + 1, [], 1) (And.intro (by show p.length - (i + 1) < p.length - i; omega) (And.intro ⟨hi, by rw [← hcol]; exact hstep, (by show 1 ≤ 2; decide), fun _ => rfl⟩ (And.intro rfl rfl)))
        | cons x r =>
          have hxl : (tB x :: r.map tB).length = 2 * t.facts.length := by rw [← hbl]; simp
          have hl4 : (tB x :: r.map tB).length ≤ 400 := by omega
          refine And.intro (Nat.le_trans (Nat.mul_le_mul_right _ hl4) (Nat.le_of_ble_eq_true rfl)) (And.intro (Nat.le_trans hl4 (Nat.le_of_ble_eq_true rfl)) ?_)
          refine And.intro (by omega) (Exists.intro _ (And.intro hgA ?_))
          refine LoopW.mk Nat (fun j => j ≤ A.effs.length) (fun j => [(3, .lits n3 l), (4, .ptr (.cur 32) 0), (9, .bools false (x :: r)), (13, .osl (.cur 432) 1 0 (tB x :: r.map tB).length), (38, .ints n2 p), (39, .int (p.map tI).length), (40, .int i), (60, .t (.sl A.en 3 (A.effs.map tEff))), (61, .int (A.effs.map tEff).length), (62, .int j)])
            (fun j => ⟨out, [(32, .box (cellsTask t)), (432, .row 4 1 ((setL (x :: r) (adds (x :: r) (A.effs.take j))).map tB))]⟩) (fun j => A.effs.length - j) 0 (Nat.zero_le _) ⟨rfl, rfl⟩ fun j hj0 => ?_
          refine And.intro (fun h2 => ?_) fun h2 => ?_
          rotate_left
          · have hje : j = A.effs.length := by have := ge_of_dec h2; have : j ≤ A.effs.length := hj0; omega
            refine And.intro (by omega) (And.intro (by omega) ?_)
            refine Exists.intro (i + 1, colN (x :: r) A, 2) (And.intro (by show p.length - (i + 1) < p.length - i; omega) (And.intro ⟨hi, hstep, Nat.le_refl 2, fun h => by cases h⟩ ⟨?_, ?_⟩))
            · show _ = ([(3, .lits n3 l), (4, .ptr (.cur 32) 0), (9, .osl (.cur 432) 1 0 (2 * t.facts.length)), (38, .ints n2 p), (39, .int (p.map tI).length), (40, .int (i + 1 : Nat))] : Env)
              rw [← hxl]; rfl
            · show _ = (⟨out, [(32, .box (cellsTask t)), (432, .row 4 1 ((setL (x :: r) (adds (x :: r) A.effs)).map tB))]⟩ : St)
              rw [hje, List.take_length]
          have hj : j < A.effs.length := lt_of_dec h2
          have hem : A.effs[j] ∈ A.effs := List.getElem_mem hj
          refine And.intro (by omega) (Exists.intro _ (And.intro (get_map hj) ?_))
          generalize hee : A.effs[j] = e at hem
          have hnx : adds (x :: r) (A.effs.take (j + 1)) = adds (x :: r) (A.effs.take j) ++ (if setHas (x :: r) e.when_ = true then [codeI e.lit] else []) := by
            rw [List.take_add_one, List.getElem?_eq_getElem hj, hee]; exact adds_snoc ..
          refine SpecP.mono (f44_spec false e.nil (x :: r) e.when_ (hin _ (K.whn _ hAm _ hem)) _) ?_
          rintro _ _ ⟨rfl, rfl⟩
          refine And.intro (fun h3 => ?_) fun h3 => ?_
          rotate_left
          · rw [h3] at hnx
            refine And.intro (by omega) (And.intro (by omega) ?_)
            refine Exists.intro (j + 1) (And.intro (by show A.effs.length - (j + 1) < A.effs.length - j; omega) (And.intro hj ⟨rfl, ?_⟩))
            show _ = (⟨out, [(32, .box (cellsTask t)), (432, .row 4 1 ((setL (x :: r) (adds (x :: r) (A.effs.take (j + 1)))).map tB))]⟩ : St)
            rw [hnx, if_neg (by decide), List.append_nil]
          rw [h3, if_pos rfl] at hnx
          have hkr := code_range (K.lit _ hAm _ hem)
          refine SpecP.mono (f45_spec e.lit (big_in K (K.lit _ hAm _ hem)) []) ?_
          rintro _ _ ⟨rfl, rfl⟩
          have hkc : codeI e.lit = ((codeN e.lit : Nat) : Int) := code_cast (K.lit _ hAm _ hem)
          have hsl := setL_len (adds (x :: r) (A.effs.take j)) (x :: r)
          have hge : ((setL (x :: r) (adds (x :: r) (A.effs.take j))).map tB)[0 + (codeI e.lit).toNat]? = some (tB ((setL (x :: r) (adds (x :: r) (A.effs.take j))).getD (codeN e.lit) false)) := by rw [hkc]; exact getB (by rw [hsl, hbl]; unfold codeN; omega)
          refine And.intro hkr.1 (And.intro (by show codeI e.lit < ((tB x :: r.map tB).length : Nat); omega) (Exists.intro _ (And.intro hge (And.intro (Nat.le_refl 1) ?_))))
          refine And.intro (by omega) (And.intro (by omega) ?_)
          refine Exists.intro (j + 1) (And.intro (by show A.effs.length - (j + 1) < A.effs.length - j; omega) (And.intro hj ⟨rfl, ?_⟩))
          have hrow : (setL (x :: r) (adds (x :: r) (A.effs.take (j + 1)))).map tB = ((setL (x :: r) (adds (x :: r) (A.effs.take j))).map tB).set (0 + (codeI e.lit).toNat) (tB true) := by
            rw [hnx, setL_snoc, hkc, setB]; rfl
          show _ = (⟨out, [(32, .box (cellsTask t)), (432, .row 4 1 ((setL (x :: r) (adds (x :: r) (A.effs.take (j + 1)))).map tB))]⟩ : St)
          rw [hrow]; rfl
      · have hi : i = p.length := by have := ge_of_dec h1; have : i ≤ p.length := hi0; omega
        rw [hi, List.take_length] at hr
        have hinl : ∀ x ∈ l, inB b x := fun x hx => (hl x hx).inB hN hbl
        have lend : b.map tB = ((b.map tB).drop 0).take (2 * t.facts.length) := by rw [List.drop_zero, List.take_of_length_le (by simp [hbl])]
        have lend2 : 0 + 2 * t.facts.length ≤ (b.map tB).length := by simp [hbl]
        refine Exists.intro _ (And.intro lend (And.intro lend2 ?_))
        refine Exists.intro _ (And.intro lend (And.intro lend2 ?_))
        refine Exists.intro _ (And.intro lend (And.intro lend2 ?_))
        refine SpecP.mono (f44_spec false n3 b l hinl _) ?_
        rintro _ _ ⟨rfl, rfl⟩
        have e : takesB t s p l = setHas b l := by unfold takesB; rw [hb0, hr]
        refine And.intro (fun h => ?_) fun h => ?_
        · exact Exists.intro [] (ret_bool (e.trans h) rfl)
        · exact Exists.intro [] (ret_bool (e.trans h) rfl)
    · refine And.intro (fun h1 => ?_) fun h1 => ?_
      · have hi : i < p.length := lt_of_dec h1
        have hpi := hp _ (List.getElem_mem hi)
        have hlt : (p[i]).toNat < t.acts.length := by omega
        have hpe : p[i] = (((p[i]).toNat : Nat) : Int) := by omega
        have hgp : (p.map tI)[((i : Nat) : Int).toNat]? = some (tI (((p[i]).toNat : Nat) : Int)) := by rw [← hpe]; exact get_map hi
        refine And.intro (by omega) (Exists.intro _ (And.intro hgp ?_))
        refine And.intro (by omega) (Exists.intro _ (And.intro (get_map hlt) ?_))
        have hA : t.acts[(p[i]).toNat]? = some t.acts[(p[i]).toNat] := List.getElem?_eq_getElem hlt
        have hAm : t.acts[(p[i]).toNat] ∈ t.acts := List.getElem_mem hlt
        have hgA : (t.acts.map tAct)[((((p[i]).toNat : Nat) : Int)).toNat]? = some (tAct t.acts[(p[i]).toNat]) := get_map hlt
        generalize t.acts[(p[i]).toNat] = A at hA hAm hgA
        have hE := K.effs _ hAm
        have hin : ∀ l : List Lit, (∀ x ∈ l, litIn t.facts.length x) → ∀ x ∈ l, inB b x := fun l hl x hx => (hl x hx).inB hN hbl
        have hstep : runB t b0 (p.take (i + 1)) = if setHas b A.pre then some (colN b A) else none := by
          rw [List.take_add_one, List.getElem?_eq_getElem hi]
          show runB t b0 (p.take i ++ [p[i]]) = _
          rw [runB_app, hr]
          show runB t b [p[i]] = _
          unfold runB
          rw [hA]; rfl
        obtain rfl : b = [] := hm1 rfl
        refine SpecP.mono (f44n_spec A.pn A.pre (hin _ (K.pre _ hAm)) _) ?_
        rintro _ _ ⟨rfl, rfl⟩
        cases hpre : setHas [] A.pre
        · refine And.intro (fun h => by cases h) fun _ => ?_
          refine Exists.intro [] (ret_bool ?_ rfl)
          have hno : runB t (iniB t s) p = none := by
            rw [hb0, ← List.take_append_drop (i + 1) p, runB_app, hstep, hpre]; rfl
          unfold takesB; rw [hno]
        refine And.intro (fun _ => ?_) fun h => by cases h
        rw [hpre, if_pos rfl] at hstep
        have hnoE : A.effs = [] := by
          cases he : A.effs with
          | nil => rfl
          | cons e r =>
            have := code_range (K.lit _ hAm e (by rw [he]; exact List.mem_cons_self))
            have h0 : 2 * t.facts.length = 0 := hbl.symm
            omega
        refine And.intro (by omega) (Exists.intro _ (And.intro hgA ?_))
        refine LoopW.mk Nat (fun j => j = 0) (fun j => [(3, .lits n3 l), (4, .ptr (.cur 32) 0), (9, .t (.sl true 0 [])), (13, .t (.sl true 0 [])), (38, .ints n2 p), (39, .int (p.map tI).length), (40, .int i), (60, .t (.sl A.en 3 (A.effs.map tEff))), (61, .int (A.effs.map tEff).length), (62, .int j)])
          (fun _ => ⟨out, [(32, .box (cellsTask t))]⟩) (fun j => A.effs.length - j) 0 rfl ⟨rfl, rfl⟩ fun j hj => ?_
        refine And.intro (fun h2 => ?_) fun h2 => ?_
        · have hj' := lt_of_dec h2
          rw [hnoE] at hj'; exact absurd hj' (Nat.not_lt_zero _)
        refine And.intro (by omega) (And.intro (by omega) ?_)
        have hcol : colN [] A = [] := by unfold colN adds; rw [hnoE]; rfl
        refine Exists.intro (i + 1, [], 1) (And.intro (by show p.length - (i + 1) < p.length - i; omega) (And.intro ⟨hi, by rw [← hcol]; exact hstep, (by show 1 ≤ 2; decide), fun _ => rfl⟩ (And.intro rfl rfl)))
      · have hi : i = p.length := by have := ge_of_dec h1; have : i ≤ p.length := hi0; omega
        rw [hi, List.take_length] at hr
        have hinl : ∀ x ∈ l, inB b x := fun x hx => (hl x hx).inB hN hbl
        obtain rfl : b = [] := hm1 rfl
        refine SpecP.mono (f44n_spec n3 l hinl _) ?_
        rintro _ _ ⟨rfl, rfl⟩
        have e : takesB t s p l = setHas [] l := by unfold takesB; rw [hb0, hr]
        refine And.intro (fun h => ?_) fun h => ?_
        · exact Exists.intro [] (ret_bool (e.trans h) rfl)
        · exact Exists.intro [] (ret_bool (e.trans h) rfl)
    · refine And.intro (fun h1 => ?_) fun h1 => ?_
      · have hi : i < p.length := lt_of_dec h1
        have hpi := hp _ (List.getElem_mem hi)
        have hlt : (p[i]).toNat < t.acts.length := by omega
        have hpe : p[i] = (((p[i]).toNat : Nat) : Int) := by omega
        have hgp : (p.map tI)[((i : Nat) : Int).toNat]? = some (tI (((p[i]).toNat : Nat) : Int)) := by rw [← hpe]; exact get_map hi
        refine And.intro (by omega) (Exists.intro _ (And.intro hgp ?_))
        refine And.intro (by omega) (Exists.intro _ (And.intro (get_map hlt) ?_))
        have hA : t.acts[(p[i]).toNat]? = some t.acts[(p[i]).toNat] := List.getElem?_eq_getElem hlt
        have hAm : t.acts[(p[i]).toNat] ∈ t.acts := List.getElem_mem hlt
        have hgA : (t.acts.map tAct)[((((p[i]).toNat : Nat) : Int)).toNat]? = some (tAct t.acts[(p[i]).toNat]) := get_map hlt
        generalize t.acts[(p[i]).toNat] = A at hA hAm hgA
        have hE := K.effs _ hAm
        have hin : ∀ l : List Lit, (∀ x ∈ l, litIn t.facts.length x) → ∀ x ∈ l, inB b x := fun l hl x hx => (hl x hx).inB hN hbl
        have hstep : runB t b0 (p.take (i + 1)) = if setHas b A.pre then some (colN b A) else none := by
          rw [List.take_add_one, List.getElem?_eq_getElem hi]
          show runB t b0 (p.take i ++ [p[i]]) = _
          rw [runB_app, hr]
          show runB t b [p[i]] = _
          unfold runB
          rw [hA]; rfl
        have lend : b.map tB = ((b.map tB).drop 0).take (2 * t.facts.length) := by rw [List.drop_zero, List.take_of_length_le (by simp [hbl])]
        have lend2 : 0 + 2 * t.facts.length ≤ (b.map tB).length := by simp [hbl]
        refine Exists.intro _ (And.intro lend (And.intro lend2 ?_))
        refine Exists.intro _ (And.intro lend (And.intro lend2 ?_))
        refine Exists.intro _ (And.intro lend (And.intro lend2 ?_))
        refine SpecP.mono (f44_spec false A.pn b A.pre (hin _ (K.pre _ hAm)) _) ?_
        rintro _ _ ⟨rfl, rfl⟩
        cases hpre : setHas b A.pre
        · refine And.intro (fun h => by cases h) fun _ => ?_
          refine Exists.intro [] (ret_bool ?_ rfl)
          have hno : runB t (iniB t s) p = none := by
            rw [hb0, ← List.take_append_drop (i + 1) p, runB_app, hstep, hpre]; rfl
          unfold takesB; rw [hno]
        refine And.intro (fun _ => ?_) fun h => by cases h
        rw [hpre, if_pos rfl] at hstep
        cases b with
        | nil =>
          have hnoE : A.effs = [] := by
            cases he : A.effs with
            | nil => rfl
            | cons e r =>
              have := code_range (K.lit _ hAm e (by rw [he]; exact List.mem_cons_self))
              have h0 : 2 * t.facts.length = 0 := hbl.symm
              omega
          refine And.intro (by omega) (Exists.intro _ (And.intro hgA ?_))
          refine LoopW.mk Nat (fun j => j = 0) (fun j => [(3, .lits n3 l), (4, .ptr (.cur 32) 0), (9, .t (.sl false 1 [])), (13, .t (.sl true 0 [])), (38, .ints n2 p), (39, .int (p.map tI).length), (40, .int i), (60, .t (.sl A.en 3 (A.effs.map tEff))), (61, .int (A.effs.map tEff).length), (62, .int j)])
            (fun _ => ⟨out, [(32, .box (cellsTask t))]⟩) (fun j => A.effs.length - j) 0 rfl ⟨rfl, rfl⟩ fun j hj => ?_
          refine And.intro (fun h2 => ?_) fun h2 => ?_
          · have hj' := lt_of_dec h2
            rw [hnoE] at hj'; exact absurd hj' (Nat.not_lt_zero _)
          refine And.intro (by omega) (And.intro (by omega) ?_)
          have hcol : colN [] A = [] := by unfold colN adds; rw [hnoE]; rfl
          refine Exists.intro (i + 1, [], 1) (And.intro (by show p.length - (i + 1) < p.length - i; omega) (And.intro ⟨hi, by rw [← hcol]; exact hstep, (by show 1 ≤ 2; decide), fun _ => rfl⟩ (And.intro rfl rfl)))
        | cons x r =>
          have hxl : (tB x :: r.map tB).length = 2 * t.facts.length := by rw [← hbl]; simp
          have hl4 : (tB x :: r.map tB).length ≤ 400 := by omega
          refine And.intro (Nat.le_trans (Nat.mul_le_mul_right _ hl4) (Nat.le_of_ble_eq_true rfl)) (And.intro (Nat.le_trans hl4 (Nat.le_of_ble_eq_true rfl)) ?_)
          refine And.intro (by omega) (Exists.intro _ (And.intro hgA ?_))
          refine LoopW.mk Nat (fun j => j ≤ A.effs.length) (fun j => [(3, .lits n3 l), (4, .ptr (.cur 32) 0), (9, .bools false (x :: r)), (13, .osl (.cur 432) 1 0 (tB x :: r.map tB).length), (38, .ints n2 p), (39, .int (p.map tI).length), (40, .int i), (60, .t (.sl A.en 3 (A.effs.map tEff))), (61, .int (A.effs.map tEff).length), (62, .int j)])
            (fun j => ⟨out, [(32, .box (cellsTask t)), (432, .row 4 1 ((setL (x :: r) (adds (x :: r) (A.effs.take j))).map tB))]⟩) (fun j => A.effs.length - j) 0 (Nat.zero_le _) ⟨rfl, rfl⟩ fun j hj0 => ?_
          refine And.intro (fun h2 => ?_) fun h2 => ?_
          rotate_left
          · have hje : j = A.effs.length := by have := ge_of_dec h2; have : j ≤ A.effs.length := hj0; omega
            refine And.intro (by omega) (And.intro (by omega) ?_)
            refine Exists.intro (i + 1, colN (x :: r) A, 2) (And.intro (by show p.length - (i + 1) < p.length - i; omega) (And.intro ⟨hi, hstep, Nat.le_refl 2, fun h => by cases h⟩ ⟨?_, ?_⟩))
            · show _ = ([(3, .lits n3 l), (4, .ptr (.cur 32) 0), (9, .osl (.cur 432) 1 0 (2 * t.facts.length)), (38, .ints n2 p), (39, .int (p.map tI).length), (40, .int (i + 1 : Nat))] : Env)
              rw [← hxl]; rfl
            · show _ = (⟨out, [(32, .box (cellsTask t)), (432, .row 4 1 ((setL (x :: r) (adds (x :: r) A.effs)).map tB))]⟩ : St)
              rw [hje, List.take_length]
          have hj : j < A.effs.length := lt_of_dec h2
          have hem : A.effs[j] ∈ A.effs := List.getElem_mem hj
          refine And.intro (by omega) (Exists.intro _ (And.intro (get_map hj) ?_))
          generalize hee : A.effs[j] = e at hem
          have hnx : adds (x :: r) (A.effs.take (j + 1)) = adds (x :: r) (A.effs.take j) ++ (if setHas (x :: r) e.when_ = true then [codeI e.lit] else []) := by
            rw [List.take_add_one, List.getElem?_eq_getElem hj, hee]; exact adds_snoc ..
          refine SpecP.mono (f44_spec false e.nil (x :: r) e.when_ (hin _ (K.whn _ hAm _ hem)) _) ?_
          rintro _ _ ⟨rfl, rfl⟩
          refine And.intro (fun h3 => ?_) fun h3 => ?_
          rotate_left
          · rw [h3] at hnx
            refine And.intro (by omega) (And.intro (by omega) ?_)
            refine Exists.intro (j + 1) (And.intro (by show A.effs.length - (j + 1) < A.effs.length - j; omega) (And.intro hj ⟨rfl, ?_⟩))
            show _ = (⟨out, [(32, .box (cellsTask t)), (432, .row 4 1 ((setL (x :: r) (adds (x :: r) (A.effs.take (j + 1)))).map tB))]⟩ : St)
            rw [hnx, if_neg (by decide), List.append_nil]
          rw [h3, if_pos rfl] at hnx
          have hkr := code_range (K.lit _ hAm _ hem)
          refine SpecP.mono (f45_spec e.lit (big_in K (K.lit _ hAm _ hem)) []) ?_
          rintro _ _ ⟨rfl, rfl⟩
          have hkc : codeI e.lit = ((codeN e.lit : Nat) : Int) := code_cast (K.lit _ hAm _ hem)
          have hsl := setL_len (adds (x :: r) (A.effs.take j)) (x :: r)
          have hge : ((setL (x :: r) (adds (x :: r) (A.effs.take j))).map tB)[0 + (codeI e.lit).toNat]? = some (tB ((setL (x :: r) (adds (x :: r) (A.effs.take j))).getD (codeN e.lit) false)) := by rw [hkc]; exact getB (by rw [hsl, hbl]; unfold codeN; omega)
          refine And.intro hkr.1 (And.intro (by show codeI e.lit < ((tB x :: r.map tB).length : Nat); omega) (Exists.intro _ (And.intro hge (And.intro (Nat.le_refl 1) ?_))))
          refine And.intro (by omega) (And.intro (by omega) ?_)
          refine Exists.intro (j + 1) (And.intro (by show A.effs.length - (j + 1) < A.effs.length - j; omega) (And.intro hj ⟨rfl, ?_⟩))
          have hrow : (setL (x :: r) (adds (x :: r) (A.effs.take (j + 1)))).map tB = ((setL (x :: r) (adds (x :: r) (A.effs.take j))).map tB).set (0 + (codeI e.lit).toNat) (tB true) := by
            rw [hnx, setL_snoc, hkc, setB]; rfl
          show _ = (⟨out, [(32, .box (cellsTask t)), (432, .row 4 1 ((setL (x :: r) (adds (x :: r) (A.effs.take (j + 1)))).map tB))]⟩ : St)
          rw [hrow]; rfl
      · have hi : i = p.length := by have := ge_of_dec h1; have : i ≤ p.length := hi0; omega
        rw [hi, List.take_length] at hr
        have hinl : ∀ x ∈ l, inB b x := fun x hx => (hl x hx).inB hN hbl
        have lend : b.map tB = ((b.map tB).drop 0).take (2 * t.facts.length) := by rw [List.drop_zero, List.take_of_length_le (by simp [hbl])]
        have lend2 : 0 + 2 * t.facts.length ≤ (b.map tB).length := by simp [hbl]
        refine Exists.intro _ (And.intro lend (And.intro lend2 ?_))
        refine Exists.intro _ (And.intro lend (And.intro lend2 ?_))
        refine Exists.intro _ (And.intro lend (And.intro lend2 ?_))
        refine SpecP.mono (f44_spec false n3 b l hinl _) ?_
        rintro _ _ ⟨rfl, rfl⟩
        have e : takesB t s p l = setHas b l := by unfold takesB; rw [hb0, hr]
        refine And.intro (fun h => ?_) fun h => ?_
        · exact Exists.intro [] (ret_bool (e.trans h) rfl)
        · exact Exists.intro [] (ret_bool (e.trans h) rfl)

end Go.Fw

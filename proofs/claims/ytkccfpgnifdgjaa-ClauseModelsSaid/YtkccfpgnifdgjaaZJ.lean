/- Texts that lead to the law, part 10. -/
import Derived.Test.YtkccfpgnifdgjaaZI

/- What the program's functions do, part 1: lists of numbers and literals. -/
namespace Go.Fw
open Go Go.Proofs
set_option maxRecDepth 10000

def od26 : Od := [(6, [(0, .pure), (1, .pure), (2, .pure), (3, .pure), (4, .pure), (5, .pure), (6, .pure), (7, .pure), (8, .pure)])]
def kp26 : Kp := [(4, ([0, 1, 12, 13], []))]

theorem f26_spec (n1 n2 : Bool) (l m : List Int) (out : List Fr) : SpecP Try.prog 26 [.ints n1 l, .ints n2 m] out fun r ro => r = .bool (l == m) ∧ ro = [] := by
  refine spec_body cx_ok kp26 od26 (fn := Try.f26) (by kernel_rfl) rfl (by kernel_rfl) rfl (by unfold FnOK; kernel_rfl) fun hok => ?_
  refine And.intro (fun h => ?_) fun h => ?_
  · refine Exists.intro [] (And.intro ?_ rfl)
    have : l ≠ m := by rintro rfl; simp at h
    show LV.t (.v (.bool false)) = .t (.v (.bool (l == m)))
    simp [this]
  · have hlen : l.length = m.length := by simp at h; omega
    have hmx := le_max hok.1.1
    refine LoopW.mk Nat (fun i => i ≤ l.length ∧ l.take i = m.take i) (fun i => [(0, .ints n1 l), (1, .ints n2 m), (12, .int (l.map tI).length), (13, .int i)]) (fun _ => ⟨out, []⟩) (fun i => l.length - i) 0 ⟨Nat.zero_le _, rfl⟩ ⟨rfl, rfl⟩ fun i hI => ?_
    refine And.intro (fun h1 => ?_) fun h1 => ?_
    · have hi := lt_of_dec h1
      have hi2 : i < m.length := by omega
      refine And.intro (by omega) (Exists.intro _ (And.intro (get_map hi) ?_))
      refine And.intro (by omega) (Exists.intro _ (And.intro (get_map hi2) ?_))
      refine And.intro (fun h2 => ?_) fun h2 => ?_
      · refine Exists.intro [] (And.intro ?_ rfl)
        have : l ≠ m := by rintro rfl; simp at h2
        show LV.t (.v (.bool false)) = .t (.v (.bool (l == m)))
        simp [this]
      · have h3 : l[i] = m[i] := by simpa using h2
        refine And.intro (by omega) (And.intro (by omega) ?_)
        refine Exists.intro (i + 1) (And.intro (by show l.length - (i + 1) < l.length - i; omega) (And.intro ⟨hi, ?_⟩ (And.intro rfl rfl)))
        rw [List.take_add_one, List.take_add_one, hI.2]; simp [hi, hi2, h3]
    · have hi : i = l.length := by have := hI.1; have := ge_of_dec h1; omega
      refine Exists.intro [] (And.intro ?_ rfl)
      have : l = m := by have := hI.2; rw [hi, List.take_length, hlen, List.take_length] at this; exact this
      show LV.t (.v (.bool true)) = .t (.v (.bool (l == m)))
      simp [this]

/-! ### Has, Holds -/
def hasB (l : List Int) (x : Int) : Bool := l.any (· == x)
def od82 : Od := []
def kp82 : Kp := [(2, ([1, 7, 8, 9], []))]
theorem f82_spec (n1 : Bool) (l : List Int) (x : Int) (out : List Fr) : SpecP Try.prog 82 [.ints n1 l, .int x] out fun r ro => r = .bool (hasB l x) ∧ ro = [] := by
  refine spec_body cx_ok kp82 od82 (fn := Try.f82) (by kernel_rfl) rfl (by kernel_rfl) rfl (by unfold FnOK; kernel_rfl) fun hok => ?_
  have hmx := le_max hok.1.1
  refine LoopW.mk Nat (fun i => i ≤ l.length ∧ (l.take i).any (· == x) = false) (fun i => [(1, .int x), (7, .ints n1 l), (8, .int (l.map tI).length), (9, .int i)]) (fun _ => ⟨out, []⟩) (fun i => l.length - i) 0 ⟨Nat.zero_le _, rfl⟩ ⟨rfl, rfl⟩ fun i hI => ?_
  refine And.intro (fun h1 => ?_) fun h1 => ?_
  · have hi := lt_of_dec h1
    refine And.intro (by omega) (Exists.intro _ (And.intro (get_map hi) ?_))
    refine And.intro (fun h2 => ?_) fun h2 => ?_
    · refine Exists.intro [] (And.intro ?_ rfl)
      have : hasB l x = true := List.any_eq_true.2 ⟨l[i], List.getElem_mem hi, h2⟩
      rw [this]; rfl
    · refine And.intro (by omega) (And.intro (by omega) ?_)
      refine Exists.intro (i + 1) (And.intro (by show l.length - (i + 1) < l.length - i; omega) (And.intro ⟨hi, ?_⟩ (And.intro rfl rfl)))
      rw [List.take_add_one, List.any_append, hI.2]; simpa [hi] using h2
  · have hi : i = l.length := by have := hI.1; have := ge_of_dec h1; omega
    refine Exists.intro [] (And.intro ?_ rfl)
    have : hasB l x = false := by have := hI.2; rw [hi, List.take_length] at this; exact this
    rw [this]; rfl

def holdsB (s : List Int) (l : List Lit) : Bool := l.all fun x => hasB s x.fact != x.neg
def od53 : Od := [(4, [(0, .pure), (1, .pure), (2, .pure), (4, .pure), (5, .pure), (3, .eff), (6, .pure)])]
def kp53 : Kp := [(2, ([0, 7, 8, 9], []))]
theorem f53_spec (n1 n2 : Bool) (s : List Int) (l : List Lit) (out : List Fr) : SpecP Try.prog 53 [.ints n1 s, .lits n2 l] out fun r ro => r = .bool (holdsB s l) ∧ ro = [] := by
  refine spec_body cx_ok kp53 od53 (fn := Try.f53) (by kernel_rfl) rfl (by kernel_rfl) rfl (by unfold FnOK; kernel_rfl) fun hok => ?_
  have hmx := le_max hok.2.1.1
  refine LoopW.mk Nat (fun i => i ≤ l.length ∧ (l.take i).all (fun x => hasB s x.fact != x.neg) = true) (fun i => [(0, .ints n1 s), (7, .lits n2 l), (8, .int (l.map tLit).length), (9, .int i)]) (fun _ => ⟨out, []⟩) (fun i => l.length - i) 0 ⟨Nat.zero_le _, rfl⟩ ⟨rfl, rfl⟩ fun i hI => ?_
  refine And.intro (fun h1 => ?_) fun h1 => ?_
  · have hi := lt_of_dec h1
    refine And.intro (by omega) (Exists.intro _ (And.intro (get_map hi) ?_))
    refine And.intro (fun h2 => ?_) fun h2 => ?_
    · refine SpecP.mono (f82_spec n1 s l[i].fact []) ?_
      rintro r ro ⟨rfl, rfl⟩
      refine And.intro ⟨rfl, rfl, rfl⟩ (And.intro (fun h3 => ?_) fun h3 => ?_)
      · refine And.intro (fun _ => ?_) fun h => Bool.noConfusion h
        exact Exists.intro [] (ret_bool (all_false hi (by simp [h2, h3])) rfl)
      · refine And.intro (fun h => Bool.noConfusion h) fun _ => ?_
        refine And.intro (by omega) (And.intro (by omega) ?_)
        exact Exists.intro (i + 1) (And.intro (by show l.length - (i + 1) < l.length - i; omega) (And.intro ⟨hi, all_step hi hI.2 (by simp [h2, h3])⟩ (And.intro rfl rfl)))
    · refine SpecP.mono (f82_spec n1 s l[i].fact []) ?_
      rintro r ro ⟨rfl, rfl⟩
      refine And.intro ⟨rfl, rfl, rfl⟩ (And.intro (fun h3 => ?_) fun h3 => ?_)
      · refine And.intro (fun h => Bool.noConfusion h) fun _ => ?_
        refine And.intro (by omega) (And.intro (by omega) ?_)
        exact Exists.intro (i + 1) (And.intro (by show l.length - (i + 1) < l.length - i; omega) (And.intro ⟨hi, all_step hi hI.2 (by simp [h2, h3])⟩ (And.intro rfl rfl)))
      · refine And.intro (fun _ => ?_) fun h => Bool.noConfusion h
        exact Exists.intro [] (ret_bool (all_false hi (by simp [h2, h3])) rfl)
  · have hi : i = l.length := by have := hI.1; have := ge_of_dec h1; omega
    refine Exists.intro [] (And.intro ?_ rfl)
    have : holdsB s l = true := by have := hI.2; rw [hi, List.take_length] at this; exact this
    rw [this]; rfl

end Go.Fw

/- What the program's functions do, part 2: codes of literals; lists that rise. -/
namespace Go.Fw
open Go Go.Proofs
set_option maxRecDepth 10000

def codeI (l : Lit) : Int := if l.neg then 2 * l.fact + 1 else 2 * l.fact
def litI (n : Int) : Lit := ⟨n.tdiv 2, n.tmod 2 == 1⟩
def big (n : Int) : Prop := -4611686018427387000 ≤ n ∧ n ≤ 4611686018427387000

def od38 : Od := [(6, [(0, .pure), (1, .pure), (2, .pure), (3, .pure), (4, .pure), (5, .pure), (6, .pure), (7, .pure), (8, .pure)])]
def kp38 : Kp := [(4, ([0, 1, 12, 13], []))]
/-! ### Rising lists -/
def at0 (l : List Int) (i : Nat) : Int := l.getD i 0
def chkI (l : List Int) (n : Int) (i : Nat) : Bool := decide (0 ≤ at0 l i) && decide (at0 l i < n) && (i == 0 || decide (at0 l (i - 1) < at0 l i))
def risingB (l : List Int) (n : Int) : Bool := (List.range l.length).all (chkI l n)
theorem range_step {p : Nat → Bool} {i : Nat} (h : (List.range i).all p = true) (h2 : p i = true) : (List.range (i + 1)).all p = true := by
  rw [List.range_succ, List.all_append, h]; simp [h2]
theorem range_false {p : Nat → Bool} {i n : Nat} (hi : i < n) (h : p i = false) : (List.range n).all p = false := by
  cases hh : (List.range n).all p with
  | false => rfl
  | true => rw [List.all_eq_true.1 hh i (List.mem_range.2 hi)] at h; cases h
theorem at0_eq {l : List Int} {i : Nat} (h : i < l.length) : at0 l i = l[i] := by simp [at0, h]
theorem get_pred {α β : Type} {l : List α} {f : α → β} {i : Nat} (h : i < l.length) (h0 : 0 < i) : (l.map f)[((i : Int) - 1).toNat]? = some (f (l[i - 1]'(by omega))) := by
  have : ((i : Int) - 1).toNat = i - 1 := by omega
  rw [this]; simp [show i - 1 < l.length by omega]

def kp49 : Kp := [(2, ([0, 1, 7, 8, 9], []))]
theorem f49_spec (n1 : Bool) (l : List Int) (n : Int) (out : List Fr) : SpecP Try.prog 49 [.ints n1 l, .int n] out fun r ro => r = .bool (risingB l n) ∧ ro = [] := by
  refine spec_body cx_ok kp49 [] (fn := Try.f49) (by kernel_rfl) rfl (by kernel_rfl) rfl (by unfold FnOK; kernel_rfl) fun hok => ?_
  have hmx := le_max hok.1.1
  refine LoopW.mk Nat (fun i => i ≤ l.length ∧ (List.range i).all (chkI l n) = true) (fun i => [(0, .ints n1 l), (1, .int n), (7, .ints n1 l), (8, .int (l.map tI).length), (9, .int i)]) (fun _ => ⟨out, []⟩) (fun i => l.length - i) 0 ⟨Nat.zero_le _, rfl⟩ ⟨rfl, rfl⟩ fun i hI => ?_
  refine And.intro (fun h1 => ?_) fun h1 => ?_
  · have hi := lt_of_dec h1
    have ha := at0_eq hi
    refine And.intro (by omega) (Exists.intro _ (And.intro (get_map hi) ?_))
    refine And.intro (fun h2 => ?_) fun h2 => ?_
    · exact Exists.intro [] (ret_bool (range_false hi (by simp [chkI, ha]; simp at h2; omega)) rfl)
    · refine And.intro (fun h3 => ?_) fun h3 => ?_
      · exact Exists.intro [] (ret_bool (range_false hi (by simp [chkI, ha]; simp at h2 h3; omega)) rfl)
      · refine And.intro (fun h4 => ?_) fun h4 => ?_
        · have h0 : 0 < i := by simp at h4; omega
          have hp := at0_eq (l := l) (i := i - 1) (by omega)
          refine And.intro (by omega) (And.intro (by omega) (And.intro (by omega) (Exists.intro _ (And.intro (get_pred hi h0) ?_))))
          refine And.intro (fun h5 => ?_) fun h5 => ?_
          · exact Exists.intro [] (ret_bool (range_false hi (by simp [chkI, ha, hp]; simp at h2 h3 h5; omega)) rfl)
          · refine And.intro (by omega) (And.intro (by omega) ?_)
            exact Exists.intro (i + 1) (And.intro (by show l.length - (i + 1) < l.length - i; omega) (And.intro ⟨hi, range_step hI.2 (by simp [chkI, ha, hp]; simp at h2 h3 h5; omega)⟩ (And.intro rfl rfl)))
        · have h0 : i = 0 := by simp at h4; omega
          refine And.intro (by omega) (And.intro (by omega) ?_)
          exact Exists.intro (i + 1) (And.intro (by show l.length - (i + 1) < l.length - i; omega) (And.intro ⟨hi, range_step hI.2 (by simp [chkI, ha]; simp at h2 h3; omega)⟩ (And.intro rfl rfl)))
  · have hi : i = l.length := by have := hI.1; have := ge_of_dec h1; omega
    exact Exists.intro [] (ret_bool (by have := hI.2; rw [hi] at this; exact this) rfl)

end Go.Fw

/- What the program's functions do, part 3: names. -/
namespace Go.Fw
open Go Go.Proofs
set_option maxRecDepth 10000

abbrev LV.str (s : ByteArray) : LV := .t (.v (.string s))
abbrev LV.byte (c : Int) : LV := .t (.v (.int .u8 c))
def byAt (s : ByteArray) (i : Nat) : Int := ((s.data[i]?.getD 0).toNat : Int)
theorem byAt_get {s : ByteArray} {i : Nat} (h : i < s.size) : s.data[((i : Int)).toNat]? = some (s.data[i]?.getD 0) := by
  have : i < s.data.size := h
  simp only [Int.toNat_natCast]
  rw [Array.getElem?_eq_getElem this]; rfl

def letterB (c : Int) : Bool := (decide (97 ≤ c) && decide (c ≤ 122)) || (decide (65 ≤ c) && decide (c ≤ 90))
def digitB (c : Int) : Bool := decide (48 ≤ c) && decide (c ≤ 57)
def withinB (s : ByteArray) (c : Int) : Bool := (List.range s.size).any fun i => byAt s i == c
def punct : ByteArray := ⟨#[45, 95, 40, 41, 44]⟩
def okB (c : Int) : Bool := letterB c || digitB c || withinB punct c
def nameB (s : ByteArray) : Bool := decide (1 ≤ s.size) && decide (s.size ≤ 40) && letterB (byAt s 0) && (List.range s.size).all fun i => okB (byAt s i)

theorem f101_spec (c : Int) (out : List Fr) : SpecP Try.prog 101 [.byte c] out fun r ro => r = .bool (letterB c) ∧ ro = [] := by
  refine spec_body cx_ok [] [] (fn := Try.f101) (by kernel_rfl) rfl (by kernel_rfl) rfl (by unfold FnOK; kernel_rfl) fun hok => ?_
  refine And.intro (fun h1 => ?_) fun h1 => ?_
  · refine And.intro (fun h2 => ?_) fun h2 => ?_
    · exact Exists.intro [] (ret_bool (by simp [letterB]; simp at h1 h2; omega) rfl)
    · refine And.intro (fun h3 => ?_) fun h3 => ?_
      · refine And.intro (fun h4 => ?_) fun h4 => ?_
        · exact Exists.intro [] (ret_bool (by simp [letterB]; simp at h1 h2 h3 h4; omega) rfl)
        · exact Exists.intro [] (ret_bool (by simp [letterB]; simp at h1 h2 h3 h4; omega) rfl)
      · exact Exists.intro [] (ret_bool (by simp [letterB]; simp at h1 h2 h3; omega) rfl)
  · refine And.intro (fun h3 => ?_) fun h3 => ?_
    · refine And.intro (fun h4 => ?_) fun h4 => ?_
      · exact Exists.intro [] (ret_bool (by simp [letterB]; simp at h1 h3 h4; omega) rfl)
      · exact Exists.intro [] (ret_bool (by simp [letterB]; simp at h1 h3 h4; omega) rfl)
    · exact Exists.intro [] (ret_bool (by simp [letterB]; simp at h1 h3; omega) rfl)

theorem f102_spec (c : Int) (out : List Fr) : SpecP Try.prog 102 [.byte c] out fun r ro => r = .bool (digitB c) ∧ ro = [] := by
  refine spec_body cx_ok [] [] (fn := Try.f102) (by kernel_rfl) rfl (by kernel_rfl) rfl (by unfold FnOK; kernel_rfl) fun hok => ?_
  refine And.intro (fun h1 => ?_) fun h1 => ?_
  · refine And.intro (fun h2 => ?_) fun h2 => ?_
    · exact Exists.intro [] (ret_bool (by simp [digitB]; simp at h1 h2; omega) rfl)
    · exact Exists.intro [] (ret_bool (by simp [digitB]; simp at h1 h2; omega) rfl)
  · exact Exists.intro [] (ret_bool (by simp [digitB]; simp at h1; omega) rfl)

theorem rany_true {p : Nat → Bool} {i n : Nat} (hi : i < n) (h : p i = true) : (List.range n).any p = true := List.any_eq_true.2 ⟨i, List.mem_range.2 hi, h⟩
theorem rany_step {p : Nat → Bool} {i : Nat} (h : (List.range i).any p = false) (h2 : p i = false) : (List.range (i + 1)).any p = false := by
  rw [List.range_succ, List.any_append, h]; simp [h2]

def kp103 : Kp := [(2, ([0, 1, 7, 8], []))]
theorem f103_spec (s : ByteArray) (c : Int) (hs : s.size ≤ 1000) (out : List Fr) : SpecP Try.prog 103 [.str s, .byte c] out fun r ro => r = .bool (withinB s c) ∧ ro = [] := by
  refine spec_body cx_ok kp103 [] (fn := Try.f103) (by kernel_rfl) rfl (by kernel_rfl) rfl (by unfold FnOK; kernel_rfl) fun hok => ?_
  refine LoopW.mk Nat (fun i => i ≤ s.size ∧ (List.range i).any (fun i => byAt s i == c) = false) (fun i => [(0, .str s), (1, .byte c), (7, .int s.size), (8, .int i)]) (fun _ => ⟨out, []⟩) (fun i => s.size - i) 0 ⟨Nat.zero_le _, rfl⟩ ⟨rfl, rfl⟩ fun i hI => ?_
  refine And.intro (fun h1 => ?_) fun h1 => ?_
  · have hi : i < s.size := by simpa using h1
    refine And.intro (by omega) (Exists.intro _ (And.intro (byAt_get hi) ?_))
    refine And.intro (fun h2 => ?_) fun h2 => ?_
    · exact Exists.intro [] (ret_bool (rany_true hi h2) rfl)
    · refine And.intro (by omega) (And.intro (by omega) ?_)
      exact Exists.intro (i + 1) (And.intro (by show s.size - (i + 1) < s.size - i; omega) (And.intro ⟨hi, rany_step hI.2 h2⟩ (And.intro rfl rfl)))
  · have hi : i = s.size := by have := hI.1; simp at h1; omega
    exact Exists.intro [] (ret_bool (by have := hI.2; rw [hi] at this; exact this) rfl)

def kp81 : Kp := [(4, ([0, 19, 20], []))]
theorem f81_spec (s : ByteArray) (out : List Fr) : SpecP Try.prog 81 [.str s] out fun r ro => r = .bool (nameB s) ∧ ro = [] := by
  refine spec_body cx_ok kp81 [] (fn := Try.f81) (by kernel_rfl) rfl (by kernel_rfl) rfl (by unfold FnOK; kernel_rfl) fun hok => ?_
  refine And.intro (fun h1 => ?_) fun h1 => ?_
  · exact Exists.intro [] (ret_bool (by simp [nameB]; simp at h1; omega) rfl)
  refine And.intro (fun h2 => ?_) fun h2 => ?_
  · exact Exists.intro [] (ret_bool (by simp [nameB]; simp at h2; omega) rfl)
  have hs : 1 ≤ s.size ∧ s.size ≤ 40 := by simp at h1 h2; omega
  refine And.intro (by decide) (Exists.intro _ (And.intro (byAt_get (i := 0) hs.1) ?_))
  refine SpecP.mono (f101_spec (byAt s 0) []) ?_
  rintro r ro ⟨rfl, rfl⟩
  refine And.intro (fun h3 => ?_) fun h3 => ?_
  · refine LoopW.mk Nat (fun i => i ≤ s.size ∧ (List.range i).all (fun i => okB (byAt s i)) = true) (fun i => [(0, .str s), (19, .int s.size), (20, .int i)]) (fun _ => ⟨out, []⟩) (fun i => s.size - i) 0 ⟨Nat.zero_le _, rfl⟩ ⟨rfl, rfl⟩ fun i hI => ?_
    refine And.intro (fun h4 => ?_) fun h4 => ?_
    · have hi : i < s.size := by simpa using h4
      refine And.intro (by omega) (Exists.intro _ (And.intro (byAt_get hi) ?_))
      refine SpecP.mono (f101_spec (byAt s i) []) ?_
      rintro r ro ⟨rfl, rfl⟩
      refine And.intro (fun h5 => ?_) fun h5 => ?_
      · refine And.intro (by omega) (And.intro (by omega) ?_)
        exact Exists.intro (i + 1) (And.intro (by show s.size - (i + 1) < s.size - i; omega) (And.intro ⟨hi, range_step hI.2 (by simp [okB, h5])⟩ (And.intro rfl rfl)))
      · refine And.intro (by omega) (Exists.intro _ (And.intro (byAt_get hi) ?_))
        refine SpecP.mono (f102_spec (byAt s i) []) ?_
        rintro r ro ⟨rfl, rfl⟩
        refine And.intro (fun h6 => ?_) fun h6 => ?_
        · refine And.intro (by omega) (And.intro (by omega) ?_)
          exact Exists.intro (i + 1) (And.intro (by show s.size - (i + 1) < s.size - i; omega) (And.intro ⟨hi, range_step hI.2 (by simp [okB, h6])⟩ (And.intro rfl rfl)))
        · refine And.intro (by omega) (Exists.intro _ (And.intro (byAt_get hi) ?_))
          refine SpecP.mono (f103_spec punct (byAt s i) (by decide) []) ?_
          rintro r ro ⟨rfl, rfl⟩
          refine And.intro (fun h7 => ?_) fun h7 => ?_
          · refine And.intro (by omega) (And.intro (by omega) ?_)
            exact Exists.intro (i + 1) (And.intro (by show s.size - (i + 1) < s.size - i; omega) (And.intro ⟨hi, range_step hI.2 (by simp [okB, h7])⟩ (And.intro rfl rfl)))
          · exact Exists.intro [] (ret_bool (by rw [nameB, range_false hi (by simp [okB, h5, h6, h7])]; simp) rfl)
    · have hi : i = s.size := by have := hI.1; simp at h4; omega
      have h5 := hI.2
      rw [hi] at h5
      exact Exists.intro [] (ret_bool (by rw [nameB, h5, h3]; simp; omega) rfl)
  · exact Exists.intro [] (ret_bool (by simp [nameB, h3]) rfl)

/-! ### Sets of names -/
def kvS (l : List ByteArray) : List (Value × T) := l.map fun s => (.string s, .v (.bool true))
theorem look_kvS (s : ByteArray) : ∀ l : List ByteArray, lookKV (.string s) (.v (.bool false)) (kvS l) = .v (.bool (l.any (s == ·)))
  | [] => rfl
  | x :: r => by
    have ih := look_kvS s r
    simp only [kvS, List.map_cons, lookKV, List.any_cons] at ih ⊢
    by_cases h : (s == x) = true
    · rw [if_pos (show sameK (.string s) (.string x) = true from h), h]; rfl
    · rw [if_neg (show ¬ sameK (.string s) (.string x) = true from h), ih]; simp [h]
theorem upd_kvS (s : ByteArray) : ∀ l : List ByteArray, l.any (s == ·) = false → updKV (.string s) (.v (.bool true)) (kvS l) = kvS (l ++ [s])
  | [], _ => rfl
  | x :: r, h => by
    simp only [List.any_cons, Bool.or_eq_false_iff] at h
    have ih := upd_kvS s r h.2
    simp only [kvS, List.map_cons, updKV, List.cons_append] at ih ⊢
    rw [if_neg (show ¬ sameK (.string s) (.string x) = true by show ¬ (s == x) = true; rw [h.1]; simp), ih]

def atS (l : List ByteArray) (i : Nat) : ByteArray := l[i]?.getD ⟨#[]⟩
def chkS (l : List ByteArray) (i : Nat) : Bool := nameB (atS l i) && !((l.take i).any (atS l i == ·))
def namesB (l : List ByteArray) : Bool := (List.range l.length).all (chkS l)
def kp48 : Kp := [(3, ([3, 7, 8, 9], [48]))]
theorem f48_spec (n1 : Bool) (l : List ByteArray) (out : List Fr) : SpecP Try.prog 48 [.t (.sl n1 1 (l.map tS))] out fun r ro => r = .bool (namesB l) ∧ ro = [] := by
  refine spec_body cx_ok kp48 [] (fn := Try.f48) (by kernel_rfl) rfl (by kernel_rfl) rfl (by unfold FnOK; kernel_rfl) fun hok => ?_
  have hmx := le_max hok.1.1
  refine LoopW.mk Nat (fun i => i ≤ l.length ∧ (List.range i).all (chkS l) = true) (fun i => [(3, .mpr (.cur 48)), (7, .t (.sl n1 1 (l.map tS))), (8, .int (l.map tS).length), (9, .int i)]) (fun i => ⟨out, [(48, .mp .str (kvS (l.take i)))]⟩) (fun i => l.length - i) 0 ⟨Nat.zero_le _, rfl⟩ ⟨rfl, rfl⟩ fun i hI => ?_
  refine And.intro (fun h1 => ?_) fun h1 => ?_
  · have hi := lt_of_dec h1
    have ha : atS l i = l[i] := by simp [atS, hi]
    refine And.intro (by omega) (Exists.intro _ (And.intro (get_map hi) ?_))
    refine SpecP.mono (f81_spec l[i] []) ?_
    rintro r ro ⟨rfl, rfl⟩
    refine And.intro (fun h2 => ?_) fun h2 => ?_
    · refine Exists.intro _ (And.intro (look_kvS _ _) ?_)
      refine And.intro (fun h3 => ?_) fun h3 => ?_
      · exact Exists.intro [] (ret_bool (range_false hi (by simp only [chkS, ha, h3]; simp)) rfl)
      · refine And.intro (by omega) (And.intro (by omega) ?_)
        refine Exists.intro (i + 1) (And.intro (by show l.length - (i + 1) < l.length - i; omega) (And.intro ⟨hi, range_step hI.2 (by simp only [chkS, ha, h2, h3]; simp)⟩ (And.intro rfl ?_)))
        have e : updKV (.string l[i]) (.v (.bool true)) (kvS (l.take i)) = kvS (l.take (i + 1)) := by
          rw [upd_kvS _ _ h3, List.take_add_one]; simp [hi]
        show (⟨out, [(48, .mp .str (updKV (.string l[i]) (.v (.bool true)) (kvS (l.take i))))]⟩ : St) = _
        rw [e]
    · exact Exists.intro [] (ret_bool (range_false hi (by simp only [chkS, ha, h2]; simp)) rfl)
  · have hi : i = l.length := by have := hI.1; have := ge_of_dec h1; omega
    exact Exists.intro [] (ret_bool (by have := hI.2; rw [hi] at this; exact this) rfl)

end Go.Fw

/- What the program's functions do, part 4: conditions; valid tasks. -/
namespace Go.Fw
open Go Go.Proofs
set_option maxRecDepth 10000

def condB (l : List Lit) (n : Int) : Bool := risingB (l.map (·.fact)) n
def effB (n : Int) (e : Eff) : Bool := condB e.when_ n && decide (0 ≤ e.lit.fact) && decide (e.lit.fact < n)
def actB (n : Int) (a : Actn) : Bool := decide (0 ≤ a.cost) && decide (a.cost ≤ 100000) && condB a.pre n && decide (a.effs.length ≤ 100) && a.effs.all (effB n)
def isB (t : Task) : Bool := decide (t.facts.length ≤ 200) && namesB t.facts && risingB t.init t.facts.length && condB t.goal t.facts.length && decide (t.acts.length ≤ 1000) &&
  t.acts.all (actB t.facts.length) && namesB (t.acts.map (·.name))

theorem atF_eq {l : List Lit} {i : Nat} (h : i < l.length) : at0 (l.map (·.fact)) i = l[i].fact := by simp [at0, h]

def od50 : Od := [(4, [(0, .pure), (1, .pure), (2, .pure), (3, .pure), (4, .pure), (5, .pure), (6, .pure), (7, .pure), (8, .pure), (9, .pure), (10, .pure), (11, .pure), (12, .pure), (13, .pure), (14, .pure), (15, .pure), (16, .pure), (17, .pure), (18, .pure), (19, .pure), (20, .pure), (21, .pure), (22, .pure), (23, .pure)])]
def kp50 : Kp := [(2, ([0, 1, 7, 8, 9], []))]
theorem f50_spec (n1 : Bool) (l : List Lit) (n : Int) (out : List Fr) : SpecP Try.prog 50 [.lits n1 l, .int n] out fun r ro => r = .bool (condB l n) ∧ ro = [] := by
  refine spec_body cx_ok kp50 od50 (fn := Try.f50) (by kernel_rfl) rfl (by kernel_rfl) rfl (by unfold FnOK; kernel_rfl) fun hok => ?_
  have hmx := le_max hok.1.1
  have hlen : (l.map (·.fact)).length = l.length := List.length_map ..
  refine LoopW.mk Nat (fun i => i ≤ l.length ∧ (List.range i).all (chkI (l.map (·.fact)) n) = true) (fun i => [(0, .lits n1 l), (1, .int n), (7, .lits n1 l), (8, .int (l.map tLit).length), (9, .int i)]) (fun _ => ⟨out, []⟩) (fun i => l.length - i) 0 ⟨Nat.zero_le _, rfl⟩ ⟨rfl, rfl⟩ fun i hI => ?_
  refine And.intro (fun h1 => ?_) fun h1 => ?_
  · have hi := lt_of_dec h1
    have hi' : i < (l.map (·.fact)).length := by rw [hlen]; exact hi
    have ha := atF_eq hi
    refine And.intro (by omega) (Exists.intro _ (And.intro (get_map hi) ?_))
    refine And.intro (fun h2 => ?_) fun h2 => ?_
    · exact Exists.intro [] (ret_bool (range_false hi' (by simp [chkI, ha]; simp at h2; omega)) rfl)
    · refine And.intro (fun h3 => ?_) fun h3 => ?_
      · exact Exists.intro [] (ret_bool (range_false hi' (by simp [chkI, ha]; simp at h2 h3; omega)) rfl)
      · refine And.intro (fun h4 => ?_) fun h4 => ?_
        · have h0 : 0 < i := by simp at h4; omega
          have hp := atF_eq (l := l) (i := i - 1) (by omega)
          refine And.intro (by omega) (And.intro (by omega) (And.intro (by omega) (Exists.intro _ (And.intro (get_pred hi h0) ?_))))
          refine And.intro (fun h5 => ?_) fun h5 => ?_
          · exact Exists.intro [] (ret_bool (range_false hi' (by simp [chkI, ha, hp]; simp at h2 h3 h5; omega)) rfl)
          · refine And.intro (by omega) (And.intro (by omega) ?_)
            exact Exists.intro (i + 1) (And.intro (by show l.length - (i + 1) < l.length - i; omega) (And.intro ⟨hi, range_step hI.2 (by simp [chkI, ha, hp]; simp at h2 h3 h5; omega)⟩ (And.intro rfl rfl)))
        · have h0 : i = 0 := by simp at h4; omega
          refine And.intro (by omega) (And.intro (by omega) ?_)
          exact Exists.intro (i + 1) (And.intro (by show l.length - (i + 1) < l.length - i; omega) (And.intro ⟨hi, range_step hI.2 (by simp [chkI, ha]; simp at h2 h3; omega)⟩ (And.intro rfl rfl)))
  · have hi : i = l.length := by have := hI.1; have := ge_of_dec h1; omega
    exact Exists.intro [] (ret_bool (by have := hI.2; rw [hi, ← hlen] at this; exact this) rfl)

end Go.Fw

/- What the program's functions do, part 5: valid tasks. -/
namespace Go.Fw
open Go Go.Proofs
set_option maxRecDepth 10000

/-! ### Lists that are gathered -/
def accV (s sz : Nat) (es : List (List T)) : LV := match es with
  | [] => .t (.sl true 0 [])
  | x :: r => .osl (.cur s) sz 0 (x :: r).length
def accO (s e sz : Nat) (es : List (List T)) : Fr := match es with
  | [] => []
  | x :: r => [(s, .row e sz (x :: r))]

def kp19 : Kp := [(6, ([3, 4, 41, 42, 43], [784])), (11, ([3, 4, 6, 41, 42, 43, 69, 70, 71], [48, 784]))]
theorem f19_spec (t : Task) (out : List Fr) : SpecP Try.prog 19 [.task t] out fun r ro => r = .bool (isB t) ∧ ro = [] := by
  refine spec_body cx_ok kp19 [] (fn := Try.f19) (by kernel_rfl) rfl (by kernel_rfl) rfl (by unfold FnOK; kernel_rfl) fun hok => ?_
  have hfm := le_max hok.1.1.1
  have ham := le_max hok.1.2.2.2.1.1
  refine And.intro (fun h1 => ?_) fun h1 => ?_
  · exact Exists.intro [] (ret_bool (by simp at h1; simp [isB]; omega) rfl)
  refine SpecP.mono (f48_spec t.fn t.facts []) ?_
  rintro r ro ⟨rfl, rfl⟩
  refine And.intro (fun h2 => ?_) fun h2 => ?_
  rotate_left
  · exact Exists.intro [] (ret_bool (by simp [isB, h2]) rfl)
  refine SpecP.mono (f49_spec t.ni t.init (t.facts.map tS).length []) ?_
  rintro r ro ⟨rfl, rfl⟩
  rw [List.length_map]
  refine And.intro (fun h3 => ?_) fun h3 => ?_
  rotate_left
  · exact Exists.intro [] (ret_bool (by simp [isB, h3]) rfl)
  refine SpecP.mono (f50_spec t.gn t.goal t.facts.length []) ?_
  rintro r ro ⟨rfl, rfl⟩
  refine And.intro (fun h4 => ?_) fun h4 => ?_
  rotate_left
  · exact Exists.intro [] (ret_bool (by simp [isB, h4]) rfl)
  refine And.intro (fun h5 => ?_) fun h5 => ?_
  · exact Exists.intro [] (ret_bool (by simp at h5; simp [isB]; omega) rfl)
  have hl1 : t.facts.length ≤ 200 := by simp at h1; omega
  have hl2 : t.acts.length ≤ 1000 := by simp at h5; omega
  refine LoopW.mk (Nat × List ByteArray) (fun p => p.1 ≤ t.acts.length ∧ p.2 = (t.acts.take p.1).map (·.name) ∧ (t.acts.take p.1).all (actB t.facts.length) = true)
    (fun p => [(3, .int t.facts.length), (4, accV 784 1 (p.2.map tS)), (41, .t (.sl t.an 4 (t.acts.map tAct))), (42, .int (t.acts.map tAct).length), (43, .int p.1)])
    (fun p => ⟨out, accO 784 9 1 (p.2.map tS)⟩) (fun p => t.acts.length - p.1) (0, []) ⟨Nat.zero_le _, rfl, rfl⟩ ⟨rfl, rfl⟩ ?_
  rintro ⟨i, nm⟩ ⟨hi0, hnm, hall⟩
  simp only at hi0 hnm hall
  cases nm with
  | nil =>
    refine And.intro (fun h6 => ?_) fun h6 => ?_
    · have hi : i < t.acts.length := lt_of_dec h6
      have hact : ∀ (h : actB t.facts.length t.acts[i] = false), isB t = false := fun h => by simp [isB, all_false hi h]
      refine And.intro (by omega) (Exists.intro _ (And.intro (get_map hi) ?_))
      refine And.intro (fun h7 => ?_) fun h7 => ?_
      · exact Exists.intro [] (ret_bool (hact (by simp at h7; simp [actB]; omega)) rfl)
      refine And.intro (fun h8 => ?_) fun h8 => ?_
      · exact Exists.intro [] (ret_bool (hact (by simp at h8; simp [actB]; omega)) rfl)
      refine SpecP.mono (f50_spec t.acts[i].pn t.acts[i].pre t.facts.length []) ?_
      rintro _ _ ⟨rfl, rfl⟩
      refine And.intro (fun h9 => ?_) fun h9 => ?_
      rotate_left
      · exact Exists.intro [] (ret_bool (hact (by simp [actB, h9])) rfl)
      refine And.intro (fun h10 => ?_) fun h10 => ?_
      · exact Exists.intro [] (ret_bool (hact (by simp at h10; simp [actB]; omega)) rfl)
      have hel : t.acts[i].effs.length ≤ 100 := by simp at h10; omega
      refine LoopW.mk Nat (fun j => j ≤ t.acts[i].effs.length ∧ (t.acts[i].effs.take j).all (effB t.facts.length) = true)
        (fun j => [(3, .int t.facts.length), (4, .t (.sl true 0 [])), (6, .ptr (.cur 48) 0), (41, .t (.sl t.an 4 (t.acts.map tAct))), (42, .int (t.acts.map tAct).length), (43, .int i), (69, .t (.sl t.acts[i].en 3 (t.acts[i].effs.map tEff))), (70, .int (t.acts[i].effs.map tEff).length), (71, .int j)])
        (fun j => ⟨out, (48, .box [.t (.v (.string t.acts[i].name)), .t (.v (.int .i64 t.acts[i].cost)), .t (.sl t.acts[i].pn 2 (t.acts[i].pre.map tLit)), .t (.sl t.acts[i].en 3 (t.acts[i].effs.map tEff))]) :: []⟩) (fun j => t.acts[i].effs.length - j) 0 ⟨Nat.zero_le _, rfl⟩ ⟨rfl, rfl⟩ fun j hJ => ?_
      refine And.intro (fun k1 => ?_) fun k1 => ?_
      · have hj : j < t.acts[i].effs.length := lt_of_dec k1
        have heff : ∀ (h : effB t.facts.length t.acts[i].effs[j] = false), isB t = false := fun h => hact (by simp [actB, all_false hj h])
        refine And.intro (by omega) (Exists.intro _ (And.intro (get_map hj) ?_))
        refine SpecP.mono (f50_spec t.acts[i].effs[j].nil t.acts[i].effs[j].when_ t.facts.length []) ?_
        rintro _ _ ⟨rfl, rfl⟩
        refine And.intro (fun k2 => ?_) fun k2 => ?_
        rotate_left
        · exact Exists.intro [] (ret_bool (heff (by simp [effB, k2])) rfl)
        refine And.intro (fun k3 => ?_) fun k3 => ?_
        · exact Exists.intro [] (ret_bool (heff (by simp at k3; simp [effB]; omega)) rfl)
        refine And.intro (fun k4 => ?_) fun k4 => ?_
        · exact Exists.intro [] (ret_bool (heff (by simp at k4; simp [effB]; omega)) rfl)
        refine And.intro (by omega) (And.intro (by omega) ?_)
        exact Exists.intro (j + 1) (And.intro (by show t.acts[i].effs.length - (j + 1) < t.acts[i].effs.length - j; omega) (And.intro ⟨hj, all_step hj hJ.2 (by simp at k3 k4; simp [effB, k2]; omega)⟩ (And.intro rfl rfl)))
      · have he : t.acts[i].effs.all (effB t.facts.length) = true := all_end (ge_of_dec k1) hJ.2
        have ha : actB t.facts.length t.acts[i] = true := by simp at h7 h8 h10; simp [actB, h9, he]; omega
        refine And.intro (Nat.le_of_ble_eq_true rfl) (And.intro (Nat.le_of_ble_eq_true rfl) (And.intro (Nat.le_of_ble_eq_true rfl) ?_))
        refine And.intro (by omega) (And.intro (by omega) ?_)
        exact Exists.intro (i + 1, [t.acts[i].name]) (And.intro (by show t.acts.length - (i + 1) < t.acts.length - i; omega) (And.intro ⟨hi, by show [t.acts[i].name] = _; rw [List.take_add_one, List.map_append, ← hnm]; simp [hi], all_step hi hall ha⟩ (And.intro rfl rfl)))
    · have hi : i = t.acts.length := by have := ge_of_dec h6; omega
      have hbase : isB t = namesB (t.acts.map (·.name)) := by
        rw [hi, List.take_length] at hall
        simp [isB, h2, h3, h4, hl1, hl2, hall]
      have hnm2 : [] = t.acts.map (·.name) := by rw [hnm, hi, List.take_length]
      refine SpecP.conv1 nil_sz (SpecP.mono (f48_spec true [] []) ?_)
      rintro _ _ ⟨rfl, rfl⟩
      refine And.intro (fun h => ?_) fun h => ?_
      · exact Exists.intro [] (ret_bool (by rw [hbase, ← hnm2]; exact h) rfl)
      · exact Exists.intro [] (ret_bool (by rw [hbase, ← hnm2]; exact h) rfl)
  | cons x r =>
    refine And.intro (fun h6 => ?_) fun h6 => ?_
    · have hi : i < t.acts.length := lt_of_dec h6
      have hact : ∀ (h : actB t.facts.length t.acts[i] = false), isB t = false := fun h => by simp [isB, all_false hi h]
      refine And.intro (by omega) (Exists.intro _ (And.intro (get_map hi) ?_))
      refine And.intro (fun h7 => ?_) fun h7 => ?_
      · exact Exists.intro [] (ret_bool (hact (by simp at h7; simp [actB]; omega)) rfl)
      refine And.intro (fun h8 => ?_) fun h8 => ?_
      · exact Exists.intro [] (ret_bool (hact (by simp at h8; simp [actB]; omega)) rfl)
      refine SpecP.mono (f50_spec t.acts[i].pn t.acts[i].pre t.facts.length []) ?_
      rintro _ _ ⟨rfl, rfl⟩
      refine And.intro (fun h9 => ?_) fun h9 => ?_
      rotate_left
      · exact Exists.intro [] (ret_bool (hact (by simp [actB, h9])) rfl)
      refine And.intro (fun h10 => ?_) fun h10 => ?_
      · exact Exists.intro [] (ret_bool (hact (by simp at h10; simp [actB]; omega)) rfl)
      have hel : t.acts[i].effs.length ≤ 100 := by simp at h10; omega
      refine LoopW.mk Nat (fun j => j ≤ t.acts[i].effs.length ∧ (t.acts[i].effs.take j).all (effB t.facts.length) = true)
        (fun j => [(3, .int t.facts.length), (4, .osl (.cur 784) 1 0 ((x :: r).map tS).length), (6, .ptr (.cur 48) 0), (41, .t (.sl t.an 4 (t.acts.map tAct))), (42, .int (t.acts.map tAct).length), (43, .int i), (69, .t (.sl t.acts[i].en 3 (t.acts[i].effs.map tEff))), (70, .int (t.acts[i].effs.map tEff).length), (71, .int j)])
        (fun j => ⟨out, (48, .box [.t (.v (.string t.acts[i].name)), .t (.v (.int .i64 t.acts[i].cost)), .t (.sl t.acts[i].pn 2 (t.acts[i].pre.map tLit)), .t (.sl t.acts[i].en 3 (t.acts[i].effs.map tEff))]) :: [(784, .row 9 1 ((x :: r).map tS))]⟩) (fun j => t.acts[i].effs.length - j) 0 ⟨Nat.zero_le _, rfl⟩ ⟨rfl, rfl⟩ fun j hJ => ?_
      refine And.intro (fun k1 => ?_) fun k1 => ?_
      · have hj : j < t.acts[i].effs.length := lt_of_dec k1
        have heff : ∀ (h : effB t.facts.length t.acts[i].effs[j] = false), isB t = false := fun h => hact (by simp [actB, all_false hj h])
        refine And.intro (by omega) (Exists.intro _ (And.intro (get_map hj) ?_))
        refine SpecP.mono (f50_spec t.acts[i].effs[j].nil t.acts[i].effs[j].when_ t.facts.length []) ?_
        rintro _ _ ⟨rfl, rfl⟩
        refine And.intro (fun k2 => ?_) fun k2 => ?_
        rotate_left
        · exact Exists.intro [] (ret_bool (heff (by simp [effB, k2])) rfl)
        refine And.intro (fun k3 => ?_) fun k3 => ?_
        · exact Exists.intro [] (ret_bool (heff (by simp at k3; simp [effB]; omega)) rfl)
        refine And.intro (fun k4 => ?_) fun k4 => ?_
        · exact Exists.intro [] (ret_bool (heff (by simp at k4; simp [effB]; omega)) rfl)
        refine And.intro (by omega) (And.intro (by omega) ?_)
        exact Exists.intro (j + 1) (And.intro (by show t.acts[i].effs.length - (j + 1) < t.acts[i].effs.length - j; omega) (And.intro ⟨hj, all_step hj hJ.2 (by simp at k3 k4; simp [effB, k2]; omega)⟩ (And.intro rfl rfl)))
      · have he : t.acts[i].effs.all (effB t.facts.length) = true := all_end (ge_of_dec k1) hJ.2
        have ha : actB t.facts.length t.acts[i] = true := by simp at h7 h8 h10; simp [actB, h9, he]; omega
        have hln : (x :: r).length = i := by rw [hnm]; simp; omega
        have hln2 : ((tS x :: r.map tS) ++ [tS t.acts[i].name]).length = i + 1 := by simp at hln ⊢; omega
        refine And.intro (Nat.le_of_ble_eq_true rfl) (And.intro rfl (And.intro (by show ((tS x :: r.map tS) ++ [tS t.acts[i].name]).length * 16 ≤ _; rw [hln2]; omega) (And.intro (by show ((tS x :: r.map tS) ++ [tS t.acts[i].name]).length ≤ _; rw [hln2]; omega) ?_)))
        refine And.intro (by omega) (And.intro (by omega) ?_)
        have e : (r ++ [t.acts[i].name]).map tS = r.map tS ++ [tS t.acts[i].name] := by simp
        refine Exists.intro (i + 1, x :: (r ++ [t.acts[i].name])) (And.intro (by show t.acts.length - (i + 1) < t.acts.length - i; omega) (And.intro ⟨hi, by show x :: (r ++ [t.acts[i].name]) = _; rw [List.take_add_one, List.map_append, ← hnm]; simp [hi], all_step hi hall ha⟩ ?_))
        simp only [List.map_cons, e]
        exact And.intro rfl rfl
    · have hi : i = t.acts.length := by have := ge_of_dec h6; omega
      have hbase : isB t = namesB (t.acts.map (·.name)) := by
        rw [hi, List.take_length] at hall
        simp [isB, h2, h3, h4, hl1, hl2, hall]
      have hnm2 : x :: r = t.acts.map (·.name) := by rw [hnm, hi, List.take_length]
      refine Exists.intro ((x :: r).map tS) (And.intro (by show _ = List.take _ (List.drop 0 _); rw [List.drop_zero, List.take_of_length_le (Nat.le_refl _)]; rfl) (And.intro (by simp) ?_))
      refine SpecP.mono (f48_spec false (x :: r) _) ?_
      rintro _ _ ⟨rfl, rfl⟩
      refine And.intro trivial (And.intro trivial ?_)
      refine And.intro (fun h => ?_) fun h => ?_
      · exact Exists.intro [] (ret_bool (by rw [hbase, ← hnm2]; exact h) rfl)
      · exact Exists.intro [] (ret_bool (by rw [hbase, ← hnm2]; exact h) rfl)

end Go.Fw

/- What the program's functions do, part 6: states and their bits. -/
namespace Go.Fw
open Go Go.Proofs
set_option maxRecDepth 10000

def bitsL (n : Nat) (l : List Int) : List Bool := l.foldl (fun b x => b.set x.toNat true) (List.replicate n false)
theorem bitsL_length (n : Nat) (l : List Int) : (bitsL n l).length = n := by
  have : ∀ (l : List Int) (b : List Bool), (l.foldl (fun b x => b.set x.toNat true) b).length = b.length := by
    intro l
    induction l with
    | nil => intro b; rfl
    | cons x r ih => intro b; rw [List.foldl_cons, ih]; simp
  rw [bitsL, this]; simp
theorem bitsL_step {n : Nat} {l : List Int} {i : Nat} (h : i < l.length) : bitsL n (l.take (i + 1)) = (bitsL n (l.take i)).set l[i].toNat true := by
  rw [bitsL, List.take_add_one, List.foldl_append]; simp [h, bitsL]
theorem map_set' {b : List Bool} {i : Nat} {x : Bool} : (b.map tB).set i (tB x) = (b.set i x).map tB := by rw [List.map_set]

def kp55 : Kp := [(3, ([5, 10, 11, 12], [72]))]
theorem f55_spec (n : Nat) (n1 : Bool) (l : List Int) (hn : n ≤ 140737488355328) (hl : ∀ x ∈ l, 0 ≤ x ∧ x < n) (out : List Fr) :
    SpecP Try.prog 55 [.int n, .ints n1 l] out fun r ro => r = .osl (.cur 72) 1 0 n ∧ ro = [(72, .row 4 1 ((bitsL n l).map tB))] := by
  refine spec_body cx_ok kp55 [] (fn := Try.f55) (by kernel_rfl) rfl (by kernel_rfl) rfl (by unfold FnOK; kernel_rfl) fun hok => ?_
  have hmx := le_max hok.2.1.1
  refine And.intro rfl (And.intro (by omega) (And.intro (by show (n : Int) * (1 : Nat) ≤ _; omega) (And.intro (by omega) ?_)))
  refine LoopW.mk Nat (fun i => i ≤ l.length) (fun i => [(5, .osl (.cur 72) 1 0 n), (10, .ints n1 l), (11, .int (l.map tI).length), (12, .int i)]) (fun i => ⟨out, [(72, .row 4 1 ((bitsL n (l.take i)).map tB))]⟩) (fun i => l.length - i) 0 (Nat.zero_le _) ⟨rfl, ?_⟩ fun i hI => ?_
  · show (⟨out, [(72, .row 4 1 (List.replicate n (tB false)))]⟩ : St) = _
    simp [bitsL]
  refine And.intro (fun h1 => ?_) fun h1 => ?_
  · have hi := lt_of_dec h1
    have hx := hl l[i] (List.getElem_mem hi)
    have hb : l[i].toNat < (bitsL n (l.take i)).length := by rw [bitsL_length]; omega
    refine And.intro (by omega) (Exists.intro _ (And.intro (get_map hi) ?_))
    refine And.intro hx.1 (And.intro hx.2 ?_)
    refine Exists.intro (tB (bitsL n (l.take i))[l[i].toNat]) (And.intro (by rw [Nat.zero_add, List.getElem?_map, List.getElem?_eq_getElem hb]; rfl) (And.intro (Nat.le_refl 1) ?_))
    refine And.intro (by omega) (And.intro (by omega) ?_)
    refine Exists.intro (i + 1) (And.intro (by show l.length - (i + 1) < l.length - i; omega) (And.intro hi (And.intro rfl ?_)))
    show (⟨out, [(72, .row 4 1 (((bitsL n (l.take i)).map tB).set (0 + l[i].toNat) (tB true)))]⟩ : St) = _
    rw [Nat.zero_add, map_set', ← bitsL_step hi]
  · have hi : i = l.length := by have := ge_of_dec h1; omega
    refine Exists.intro [72] (And.intro rfl ?_)
    show [(72, Ob.row 4 1 ((bitsL n (l.take i)).map tB))] = _
    rw [hi, List.take_length]

end Go.Fw

/- What the program's functions do, part 7: the list of bits. -/
namespace Go.Fw
open Go Go.Proofs
set_option maxRecDepth 10000

def listFrom : Nat → List Bool → List Int
  | _, [] => []
  | k, b :: r => (if b then [(k : Int)] else []) ++ listFrom (k + 1) r
def listL (b : List Bool) : List Int := listFrom 0 b
theorem listFrom_snoc (b : Bool) : ∀ (l : List Bool) (k : Nat), listFrom k (l ++ [b]) = listFrom k l ++ if b then [((k + l.length : Nat) : Int)] else []
  | [], k => by simp [listFrom]
  | c :: r, k => by
    rw [List.cons_append, listFrom, listFrom_snoc b r (k + 1), listFrom, List.append_assoc]
    simp only [List.length_cons]
    rw [show k + 1 + r.length = k + (r.length + 1) by omega]
theorem listL_step {l : List Bool} {i : Nat} (h : i < l.length) : listL (l.take (i + 1)) = listL (l.take i) ++ if l[i] then [(i : Int)] else [] := by
  rw [List.take_add_one]
  simp only [h, List.getElem?_eq_getElem, Option.toList_some]
  rw [listL, listFrom_snoc, listL]
  have : (l.take i).length = i := by simp; omega
  rw [this, Nat.zero_add]
theorem listL_len (l : List Bool) (i : Nat) : (listL (l.take i)).length ≤ i := by
  have : ∀ (l : List Bool) (k : Nat), (listFrom k l).length ≤ l.length := by
    intro l
    induction l with
    | nil => intro k; simp [listFrom]
    | cons b r ih => intro k; have := ih (k + 1); cases b <;> simp [listFrom] <;> omega
  exact Nat.le_trans (this _ 0) (by simp; omega)

def kp83 : Kp := [(3, ([3, 6, 7, 8], [136]))]
theorem f83_spec (n1 : Bool) (b : List Bool) (hb : b.length ≤ 1000000000) (out : List Fr) :
    SpecP Try.prog 83 [.bools n1 b] out fun r ro => r = accV 136 1 ((listL b).map tI) ∧ ro = accO 136 3 1 ((listL b).map tI) := by
  refine spec_body cx_ok kp83 [] (fn := Try.f83) (by kernel_rfl) rfl (by kernel_rfl) rfl (by unfold FnOK; kernel_rfl) fun hok => ?_
  refine LoopW.mk (Nat × List Int) (fun p => p.1 ≤ b.length ∧ p.2 = listL (b.take p.1)) (fun p => [(3, accV 136 1 (p.2.map tI)), (6, .bools n1 b), (7, .int (b.map tB).length), (8, .int p.1)]) (fun p => ⟨out, accO 136 3 1 (p.2.map tI)⟩) (fun p => b.length - p.1) (0, []) ⟨Nat.zero_le _, rfl⟩ ⟨rfl, rfl⟩ ?_
  rintro ⟨i, acc⟩ ⟨hi0, hacc⟩
  simp only at hi0 hacc
  cases acc with
  | nil =>
    refine And.intro (fun h1 => ?_) fun h1 => ?_
    · have hi : i < b.length := lt_of_dec h1
      have hs := listL_step hi
      refine And.intro (by omega) (Exists.intro _ (And.intro (get_map hi) ?_))
      refine And.intro (fun h2 => ?_) fun h2 => ?_
      · refine And.intro (Nat.le_of_ble_eq_true rfl) (And.intro (Nat.le_of_ble_eq_true rfl) (And.intro (Nat.le_of_ble_eq_true rfl) ?_))
        refine And.intro (by omega) (And.intro (by omega) ?_)
        exact Exists.intro (i + 1, [(i : Int)]) (And.intro (by show b.length - (i + 1) < b.length - i; omega) (And.intro ⟨hi, by show [(i : Int)] = _; rw [hs, ← hacc, h2]; rfl⟩ (And.intro rfl rfl)))
      · refine And.intro (by omega) (And.intro (by omega) ?_)
        exact Exists.intro (i + 1, []) (And.intro (by show b.length - (i + 1) < b.length - i; omega) (And.intro ⟨hi, by show [] = _; rw [hs, ← hacc, h2]; rfl⟩ (And.intro rfl rfl)))
    · have hi : i = b.length := by have := ge_of_dec h1; omega
      rw [hi, List.take_length] at hacc
      refine Exists.intro [136] (And.intro ?_ ?_)
      · show LV.t (.sl true 0 []) = _
        rw [← hacc]; rfl
      · rw [← hacc]; rfl
  | cons x r =>
    refine And.intro (fun h1 => ?_) fun h1 => ?_
    · have hi : i < b.length := lt_of_dec h1
      have hs := listL_step hi
      have hln : (x :: r).length ≤ i := by rw [hacc]; exact listL_len b i
      have hln2 : ((tI x :: r.map tI) ++ [tI i]).length ≤ i + 1 := by simp at hln ⊢; omega
      refine And.intro (by omega) (Exists.intro _ (And.intro (get_map hi) ?_))
      refine And.intro (fun h2 => ?_) fun h2 => ?_
      · refine And.intro (Nat.le_of_ble_eq_true rfl) (And.intro rfl (And.intro (by show ((tI x :: r.map tI) ++ [tI i]).length * 8 ≤ _; omega) (And.intro (by show ((tI x :: r.map tI) ++ [tI i]).length ≤ _; omega) ?_)))
        refine And.intro (by omega) (And.intro (by omega) ?_)
        have e : (r ++ [(i : Int)]).map tI = r.map tI ++ [tI i] := by simp
        refine Exists.intro (i + 1, x :: (r ++ [(i : Int)])) (And.intro (by show b.length - (i + 1) < b.length - i; omega) (And.intro ⟨hi, by show x :: (r ++ [(i : Int)]) = _; rw [hs, ← hacc, h2]; rfl⟩ ?_))
        simp only [List.map_cons, e]
        exact And.intro rfl rfl
      · refine And.intro (by omega) (And.intro (by omega) ?_)
        exact Exists.intro (i + 1, x :: r) (And.intro (by show b.length - (i + 1) < b.length - i; omega) (And.intro ⟨hi, by show x :: r = _; rw [hs, ← hacc, h2]; simp⟩ (And.intro rfl rfl)))
    · have hi : i = b.length := by have := ge_of_dec h1; omega
      rw [hi, List.take_length] at hacc
      refine Exists.intro [136] (And.intro ?_ ?_)
      · show LV.osl (.cur 136) 1 0 ((x :: r).map tI).length = _
        rw [← hacc]; rfl
      · rw [← hacc]; rfl

end Go.Fw

/- What the program's functions do, part 8: sets of literals. -/
namespace Go.Fw
open Go Go.Proofs
set_option maxRecDepth 10000

def setHas (b : List Bool) (l : List Lit) : Bool := l.all fun x => b.getD (codeI x).toNat false
def od32 : Od := []
def kp32 : Kp := [(2, ([0, 7, 8, 9], []))]
end Go.Fw

/- What the program's functions do, part 9: the list of a set of literals. -/
namespace Go.Fw
open Go Go.Proofs
set_option maxRecDepth 10000

def kp28 : Kp := [(3, ([3, 6, 7, 8], [176]))]
end Go.Fw

/- What the program's functions do, part 10: rising lists and conditions of package task. -/
namespace Go.Fw
open Go Go.Proofs
set_option maxRecDepth 10000

def kp74 : Kp := [(2, ([0, 1, 7, 8, 9], []))]
theorem f74_spec (n1 : Bool) (l : List Int) (n : Int) (out : List Fr) : SpecP Try.prog 74 [.int n, .ints n1 l] out fun r ro => r = .bool (risingB l n) ∧ ro = [] := by
  refine spec_body cx_ok kp74 [] (fn := Try.f74) (by kernel_rfl) rfl (by kernel_rfl) rfl (by unfold FnOK; kernel_rfl) fun hok => ?_
  have hmx := le_max hok.2.1.1
  refine LoopW.mk Nat (fun i => i ≤ l.length ∧ (List.range i).all (chkI l n) = true) (fun i => [(0, .int n), (1, .ints n1 l), (7, .ints n1 l), (8, .int (l.map tI).length), (9, .int i)]) (fun _ => ⟨out, []⟩) (fun i => l.length - i) 0 ⟨Nat.zero_le _, rfl⟩ ⟨rfl, rfl⟩ fun i hI => ?_
  refine And.intro (fun h1 => ?_) fun h1 => ?_
  · have hi := lt_of_dec h1
    have ha := at0_eq hi
    refine And.intro (by omega) (Exists.intro _ (And.intro (get_map hi) ?_))
    refine And.intro (fun h2 => ?_) fun h2 => ?_
    · exact Exists.intro [] (ret_bool (range_false hi (by simp [chkI, ha]; simp at h2; omega)) rfl)
    · refine And.intro (fun h3 => ?_) fun h3 => ?_
      · exact Exists.intro [] (ret_bool (range_false hi (by simp [chkI, ha]; simp at h2 h3; omega)) rfl)
      · refine And.intro (fun h4 => ?_) fun h4 => ?_
        · have h0 : 0 < i := by simp at h4; omega
          have hp := at0_eq (l := l) (i := i - 1) (by omega)
          refine And.intro (by omega) (And.intro (by omega) (And.intro (by omega) (Exists.intro _ (And.intro (get_pred hi h0) ?_))))
          refine And.intro (fun h5 => ?_) fun h5 => ?_
          · exact Exists.intro [] (ret_bool (range_false hi (by simp [chkI, ha, hp]; simp at h2 h3 h5; omega)) rfl)
          · refine And.intro (by omega) (And.intro (by omega) ?_)
            exact Exists.intro (i + 1) (And.intro (by show l.length - (i + 1) < l.length - i; omega) (And.intro ⟨hi, range_step hI.2 (by simp [chkI, ha, hp]; simp at h2 h3 h5; omega)⟩ (And.intro rfl rfl)))
        · have h0 : i = 0 := by simp at h4; omega
          refine And.intro (by omega) (And.intro (by omega) ?_)
          exact Exists.intro (i + 1) (And.intro (by show l.length - (i + 1) < l.length - i; omega) (And.intro ⟨hi, range_step hI.2 (by simp [chkI, ha]; simp at h2 h3; omega)⟩ (And.intro rfl rfl)))
  · have hi : i = l.length := by have := hI.1; have := ge_of_dec h1; omega
    exact Exists.intro [] (ret_bool (by have := hI.2; rw [hi] at this; exact this) rfl)

def od75 : Od := [(4, [(0, .pure), (1, .pure), (2, .pure), (3, .pure), (4, .pure), (5, .pure), (6, .pure), (7, .pure), (8, .pure), (9, .pure), (10, .pure), (11, .pure), (12, .pure), (13, .pure), (14, .pure), (15, .pure), (16, .pure), (17, .pure), (18, .pure), (19, .pure), (20, .pure), (21, .pure), (22, .pure), (23, .pure)])]
def kp75 : Kp := [(2, ([0, 1, 7, 8, 9], []))]
theorem f75_spec (n1 : Bool) (l : List Lit) (n : Int) (out : List Fr) : SpecP Try.prog 75 [.int n, .lits n1 l] out fun r ro => r = .bool (condB l n) ∧ ro = [] := by
  refine spec_body cx_ok kp75 od75 (fn := Try.f75) (by kernel_rfl) rfl (by kernel_rfl) rfl (by unfold FnOK; kernel_rfl) fun hok => ?_
  have hmx := le_max hok.2.1.1
  have hlen : (l.map (·.fact)).length = l.length := List.length_map ..
  refine LoopW.mk Nat (fun i => i ≤ l.length ∧ (List.range i).all (chkI (l.map (·.fact)) n) = true) (fun i => [(0, .int n), (1, .lits n1 l), (7, .lits n1 l), (8, .int (l.map tLit).length), (9, .int i)]) (fun _ => ⟨out, []⟩) (fun i => l.length - i) 0 ⟨Nat.zero_le _, rfl⟩ ⟨rfl, rfl⟩ fun i hI => ?_
  refine And.intro (fun h1 => ?_) fun h1 => ?_
  · have hi := lt_of_dec h1
    have hi' : i < (l.map (·.fact)).length := by rw [hlen]; exact hi
    have ha := atF_eq hi
    refine And.intro (by omega) (Exists.intro _ (And.intro (get_map hi) ?_))
    refine And.intro (fun h2 => ?_) fun h2 => ?_
    · exact Exists.intro [] (ret_bool (range_false hi' (by simp [chkI, ha]; simp at h2; omega)) rfl)
    · refine And.intro (fun h3 => ?_) fun h3 => ?_
      · exact Exists.intro [] (ret_bool (range_false hi' (by simp [chkI, ha]; simp at h2 h3; omega)) rfl)
      · refine And.intro (fun h4 => ?_) fun h4 => ?_
        · have h0 : 0 < i := by simp at h4; omega
          have hp := atF_eq (l := l) (i := i - 1) (by omega)
          refine And.intro (by omega) (And.intro (by omega) (And.intro (by omega) (Exists.intro _ (And.intro (get_pred hi h0) ?_))))
          refine And.intro (fun h5 => ?_) fun h5 => ?_
          · exact Exists.intro [] (ret_bool (range_false hi' (by simp [chkI, ha, hp]; simp at h2 h3 h5; omega)) rfl)
          · refine And.intro (by omega) (And.intro (by omega) ?_)
            exact Exists.intro (i + 1) (And.intro (by show l.length - (i + 1) < l.length - i; omega) (And.intro ⟨hi, range_step hI.2 (by simp [chkI, ha, hp]; simp at h2 h3 h5; omega)⟩ (And.intro rfl rfl)))
        · have h0 : i = 0 := by simp at h4; omega
          refine And.intro (by omega) (And.intro (by omega) ?_)
          exact Exists.intro (i + 1) (And.intro (by show l.length - (i + 1) < l.length - i; omega) (And.intro ⟨hi, range_step hI.2 (by simp [chkI, ha]; simp at h2 h3; omega)⟩ (And.intro rfl rfl)))
  · have hi : i = l.length := by have := hI.1; have := ge_of_dec h1; omega
    exact Exists.intro [] (ret_bool (by have := hI.2; rw [hi, ← hlen] at this; exact this) rfl)

theorem f97_spec (c : Int) (out : List Fr) : SpecP Try.prog 97 [.byte c] out fun r ro => r = .bool (letterB c) ∧ ro = [] := by
  refine spec_body cx_ok [] [] (fn := Try.f97) (by kernel_rfl) rfl (by kernel_rfl) rfl (by unfold FnOK; kernel_rfl) fun hok => ?_
  refine And.intro (fun h1 => ?_) fun h1 => ?_
  · refine And.intro (fun h2 => ?_) fun h2 => ?_
    · exact Exists.intro [] (ret_bool (by simp [letterB]; simp at h1 h2; omega) rfl)
    · refine And.intro (fun h3 => ?_) fun h3 => ?_
      · refine And.intro (fun h4 => ?_) fun h4 => ?_
        · exact Exists.intro [] (ret_bool (by simp [letterB]; simp at h1 h2 h3 h4; omega) rfl)
        · exact Exists.intro [] (ret_bool (by simp [letterB]; simp at h1 h2 h3 h4; omega) rfl)
      · exact Exists.intro [] (ret_bool (by simp [letterB]; simp at h1 h2 h3; omega) rfl)
  · refine And.intro (fun h3 => ?_) fun h3 => ?_
    · refine And.intro (fun h4 => ?_) fun h4 => ?_
      · exact Exists.intro [] (ret_bool (by simp [letterB]; simp at h1 h3 h4; omega) rfl)
      · exact Exists.intro [] (ret_bool (by simp [letterB]; simp at h1 h3 h4; omega) rfl)
    · exact Exists.intro [] (ret_bool (by simp [letterB]; simp at h1 h3; omega) rfl)


end Go.Fw

/- What the program's functions do, part 11: the first place of a byte; package task's names. -/
namespace Go.Fw
open Go Go.Proofs
set_option maxRecDepth 10000

def idxB (s : ByteArray) (c : Int) : Int := Lib.indexByte s.data.toList c.toNat.toUInt8
theorem f109_spec (s : ByteArray) (c : Int) (out : List Fr) : SpecP Try.prog 109 [.str s, .byte c] out fun r ro => r = .int (idxB s c) ∧ ro = [] := by
  refine spec_body cx_ok [] [] (fn := Try.f109) (by kernel_rfl) rfl (by kernel_rfl) rfl (by unfold FnOK; kernel_rfl) fun hok => ?_
  rintro _ rfl
  exact Exists.intro [] (And.intro rfl rfl)
theorem f98_spec (s : ByteArray) (c : Int) (out : List Fr) : SpecP Try.prog 98 [.str s, .byte c] out fun r ro => r = .int (idxB s c) ∧ ro = [] := by
  refine spec_body cx_ok [] [] (fn := Try.f98) (by kernel_rfl) rfl (by kernel_rfl) rfl (by unfold FnOK; kernel_rfl) fun hok => ?_
  refine SpecP.mono (f109_spec s c []) ?_
  rintro _ _ ⟨rfl, rfl⟩
  exact Exists.intro [] (And.intro rfl rfl)

theorem idx_neg (l : List UInt8) (c : UInt8) : Lib.indexByte l c < 0 ↔ ∀ b ∈ l, b ≠ c := by
  induction l with
  | nil => simp [Lib.indexByte]
  | cons b l ih =>
    have hge := Lib.indexByte_ge l c
    rw [Lib.indexByte]
    by_cases hb : b = c
    · simp [hb]
    · have : (b == c) = false := by simpa using hb
      simp only [this, Bool.false_eq_true, if_false]
      simp only [List.mem_cons, forall_eq_or_imp, ne_eq, hb, not_false_eq_true, true_and]
      rw [← show (∀ a ∈ l, a ≠ c) ↔ _ from Iff.rfl, ← ih]
      split
      · rename_i h; simp at h; omega
      · rename_i h; simp at h; omega
theorem idx_within {c : Int} (hc : ∃ b : UInt8, c = (b.toNat : Int)) : decide (idxB punct c < 0) = !withinB punct c := by
  obtain ⟨b, rfl⟩ := hc
  have h : idxB punct (b.toNat : Int) < 0 ↔ ∀ x ∈ punct.data.toList, x ≠ b := by
    unfold idxB
    rw [idx_neg]
    have : ((b.toNat : Int)).toNat.toUInt8 = b := by simp
    rw [this]
  have hw : withinB punct (b.toNat : Int) = punct.data.toList.any (· == b) := by
    have e : ∀ i, (byAt punct i == (b.toNat : Int)) = (punct.data[i]?.getD 0 == b) := by
      intro i
      rw [byAt]
      by_cases h : punct.data[i]?.getD 0 = b
      · rw [h]; simp
      · have : (punct.data[i]?.getD 0).toNat ≠ b.toNat := fun hh => h (UInt8.toNat_inj.1 hh)
        have h2 : (((punct.data[i]?.getD 0).toNat : Int) == (b.toNat : Int)) = false := by simp; omega
        have h3 : (punct.data[i]?.getD 0 == b) = false := by simpa using h
        rw [h2, h3]
    unfold withinB
    simp only [e]
    rfl
  rw [hw]
  cases hh : punct.data.toList.any (· == b) with
  | true =>
    obtain ⟨x, hx, hxb⟩ := List.any_eq_true.1 hh
    simp only [Bool.not_true, decide_eq_false_iff_not]
    rw [h]
    intro hf
    exact hf x hx (by simpa using hxb)
  | false =>
    simp only [Bool.not_false, decide_eq_true_eq]
    rw [h]
    intro x hx hxb
    have := List.any_eq_false.1 hh x hx
    simp [hxb] at this

theorem byAt_u8 (s : ByteArray) (i : Nat) : ∃ b : UInt8, byAt s i = (b.toNat : Int) := ⟨_, rfl⟩
def kp76 : Kp := [(4, ([0, 19, 20], []))]
theorem eq_empty {s : ByteArray} {b : Bool} (h : (s.toList == (⟨#[]⟩ : ByteArray).toList) = b) : b = decide (s.size = 0) := by
  rw [Lib.toList_data, Lib.toList_data] at h
  have hsz : s.size = s.data.toList.length := by rw [Array.length_toList]; rfl
  rw [← h, hsz]
  generalize s.data.toList = l
  cases l with
  | nil => rfl
  | cons _ _ => rfl
theorem f76_spec (s : ByteArray) (out : List Fr) : SpecP Try.prog 76 [.str s] out fun r ro => r = .bool (nameB s) ∧ ro = [] := by
  refine spec_body cx_ok kp76 [] (fn := Try.f76) (by kernel_rfl) rfl (by kernel_rfl) rfl (by unfold FnOK; kernel_rfl) fun hok => ?_
  refine And.intro (fun h1 => ?_) fun h1 => ?_
  · exact Exists.intro [] (ret_bool (by have h0 : s.size = 0 := of_decide_eq_true (eq_empty h1).symm; rw [nameB, h0]; rfl) rfl)
  refine And.intro (fun h2 => ?_) fun h2 => ?_
  · exact Exists.intro [] (ret_bool (by simp [nameB]; simp at h2; omega) rfl)
  have hs : 1 ≤ s.size ∧ s.size ≤ 40 := by have h0 : ¬ s.size = 0 := of_decide_eq_false (eq_empty h1).symm; simp at h2; omega
  refine And.intro (by decide) (Exists.intro _ (And.intro (byAt_get (i := 0) hs.1) ?_))
  refine SpecP.mono (f97_spec (byAt s 0) []) ?_
  rintro r ro ⟨rfl, rfl⟩
  refine And.intro (fun h3 => ?_) fun h3 => ?_
  · refine LoopW.mk Nat (fun i => i ≤ s.size ∧ (List.range i).all (fun i => okB (byAt s i)) = true) (fun i => [(0, .str s), (19, .int s.size), (20, .int i)]) (fun _ => ⟨out, []⟩) (fun i => s.size - i) 0 ⟨Nat.zero_le _, rfl⟩ ⟨rfl, rfl⟩ fun i hI => ?_
    refine And.intro (fun h4 => ?_) fun h4 => ?_
    · have hi : i < s.size := by simpa using h4
      refine And.intro (by omega) (Exists.intro _ (And.intro (byAt_get hi) ?_))
      refine SpecP.mono (f97_spec (byAt s i) []) ?_
      rintro r ro ⟨rfl, rfl⟩
      have next : okB (byAt s i) = true → ∀ {p : Prop}, ((s.size - (i + 1) < s.size - i) → (i + 1 ≤ s.size ∧ (List.range (i + 1)).all (fun i => okB (byAt s i)) = true) → p) → p := fun h _ hp => hp (by omega) ⟨hi, range_step hI.2 h⟩
      refine And.intro (fun h5 => ?_) fun h5 => ?_
      · refine And.intro (by omega) (And.intro (by omega) ?_)
        exact Exists.intro (i + 1) (And.intro (by show s.size - (i + 1) < s.size - i; omega) (And.intro ⟨hi, range_step hI.2 (by simp [okB, h5])⟩ (And.intro rfl rfl)))
      · have hd : ∀ b, okB (byAt s i) = b → decide (48 ≤ byAt s i) = true ∧ decide (byAt s i ≤ 57) = true → b = true := fun b hb ⟨g1, g2⟩ => by rw [← hb]; simp only [okB, digitB, g1, g2]; simp
        refine And.intro (fun h6 => ?_) fun h6 => ?_
        · refine SpecP.mono (f98_spec punct (byAt s i) []) ?_
          rintro r ro ⟨rfl, rfl⟩
          have hx := idx_within (byAt_u8 s i)
          have hdig : digitB (byAt s i) = false := by have g6 : byAt s i < 48 := of_decide_eq_true h6; simp only [digitB, Bool.and_eq_false_iff, decide_eq_false_iff_not]; omega
          refine And.intro (fun h7 => ?_) fun h7 => ?_
          · rw [h7] at hx
            exact Exists.intro [] (ret_bool (by rw [nameB, range_false hi (by simp at hx; simp [okB, h5, hdig, hx])]; simp) rfl)
          · rw [h7] at hx
            refine And.intro (by omega) (And.intro (by omega) ?_)
            exact Exists.intro (i + 1) (And.intro (by show s.size - (i + 1) < s.size - i; omega) (And.intro ⟨hi, range_step hI.2 (by simp at hx; simp [okB, hx])⟩ (And.intro rfl rfl)))
        · refine And.intro (fun h8 => ?_) fun h8 => ?_
          · refine SpecP.mono (f98_spec punct (byAt s i) []) ?_
            rintro r ro ⟨rfl, rfl⟩
            have hx := idx_within (byAt_u8 s i)
            have hdig : digitB (byAt s i) = false := by have g8 : byAt s i > 57 := of_decide_eq_true h8; simp only [digitB, Bool.and_eq_false_iff, decide_eq_false_iff_not]; omega
            refine And.intro (fun h7 => ?_) fun h7 => ?_
            · rw [h7] at hx
              exact Exists.intro [] (ret_bool (by rw [nameB, range_false hi (by simp at hx; simp [okB, h5, hdig, hx])]; simp) rfl)
            · rw [h7] at hx
              refine And.intro (by omega) (And.intro (by omega) ?_)
              exact Exists.intro (i + 1) (And.intro (by show s.size - (i + 1) < s.size - i; omega) (And.intro ⟨hi, range_step hI.2 (by simp at hx; simp [okB, hx])⟩ (And.intro rfl rfl)))
          · have hdig : digitB (byAt s i) = true := by have g6 : ¬ byAt s i < 48 := of_decide_eq_false h6; have g8 : ¬ byAt s i > 57 := of_decide_eq_false h8; simp only [digitB, Bool.and_eq_true, decide_eq_true_eq]; omega
            refine And.intro (by omega) (And.intro (by omega) ?_)
            exact Exists.intro (i + 1) (And.intro (by show s.size - (i + 1) < s.size - i; omega) (And.intro ⟨hi, range_step hI.2 (by simp [okB, hdig])⟩ (And.intro rfl rfl)))
    · have hi : i = s.size := by have := hI.1; simp at h4; omega
      have h5 := hI.2
      rw [hi] at h5
      exact Exists.intro [] (ret_bool (by rw [nameB, h5, h3]; simp; omega) rfl)
  · exact Exists.intro [] (ret_bool (by simp [nameB, h3]) rfl)

end Go.Fw

/- What the program's functions do, part 12: Few: it comes back; its sums may wrap. -/
namespace Go.Fw
open Go Go.Proofs
set_option maxRecDepth 10000

theorem wrap64 {n : Int} (h : -9223372036854775808 ≤ n) (h2 : n ≤ 9223372036854775807) : IntKind.i64.wrap n = n := wrap_in h h2
theorem ret_any {b : Bool} {ro : Fr} (h2 : ro = []) : ∃ c : Bool, LV.t (.v (.bool b)) = .bool c ∧ ro = [] := ⟨b, rfl, h2⟩

def kp16 : Kp := [(5, ([1, 2, 5, 31, 32, 33], [16])), (11, ([1, 5, 43, 44, 45], [])), (17, ([1, 5, 43, 44, 45, 69, 70, 71], []))]
theorem f16_spec (t : Task) (most : Int) (out : List Fr) : SpecP Try.prog 16 [.task t, .int most] out fun r ro => ∃ b : Bool, r = .bool b ∧ ro = [] := by
  refine spec_body cxw_ok kp16 [] (fn := Try.f16) (by kernel_rfl) rfl (by kernel_rfl) rfl (by unfold FnOK; kernel_rfl) fun hok => ?_
  have hfm := le_max hok.1.1.1
  have ham := le_max hok.1.2.2.2.1.1
  have hae : ∀ a ∈ t.acts, (a.effs.length : Int) ≤ 9223372036854775807 := fun a ha => by
    have h1 := hok.1.2.2.2.1.2
    have h2 := okEs_iff.1 h1 (tAct a) (List.mem_map_of_mem ha) (.sl a.en 3 (a.effs.map tEff)) (by simp [tAct])
    exact le_max h2.1
  intro m1 _ m2 _ m3 _
  refine And.intro (fun h1 => ?_) fun h1 => ?_
  · exact Exists.intro [] (ret_any rfl)
  refine LoopW.mk Nat (fun i => i ≤ t.facts.length) (fun i => [(1, .int most), (2, .ptr (.cur 16) 0), (5, .int m3), (31, .t (.sl t.fn 1 (t.facts.map tS))), (32, .int (t.facts.map tS).length), (33, .int i)])
    (fun _ => ⟨out, [(16, .box [.t (.sl t.fn 1 (t.facts.map tS)), .t (.sl t.ni 1 (t.init.map tI)), .t (.sl t.gn 2 (t.goal.map tLit)), .t (.sl t.an 4 (t.acts.map tAct))])]⟩) (fun i => t.facts.length - i) 0 (Nat.zero_le _) ⟨rfl, rfl⟩ fun i hI => ?_
  refine And.intro (fun h2 => ?_) fun h2 => ?_
  · have hi := lt_of_dec h2
    refine And.intro (by omega) (Exists.intro _ (And.intro (get_map hi) ?_))
    refine And.intro (fun h3 => ?_) fun h3 => ?_
    · exact Exists.intro [] (ret_any rfl)
    · intro m hm
      rw [wrap64 (by omega) (by omega)] at hm
      subst hm
      exact Exists.intro (i + 1) (And.intro (by show t.facts.length - (i + 1) < t.facts.length - i; omega) (And.intro hi (And.intro rfl rfl)))
  refine LoopW.mk (Nat × Int) (fun p => p.1 ≤ t.acts.length) (fun p => [(1, .int most), (5, .int p.2), (43, .t (.sl t.an 4 (t.acts.map tAct))), (44, .int (t.acts.map tAct).length), (45, .int p.1)])
    (fun _ => ⟨out, []⟩) (fun p => t.acts.length - p.1) (0, m3) (Nat.zero_le _) ⟨rfl, rfl⟩ ?_
  rintro ⟨j, n⟩ hJ
  simp only at hJ
  refine And.intro (fun h4 => ?_) fun h4 => ?_
  · have hj : j < t.acts.length := lt_of_dec h4
    refine And.intro (by omega) (Exists.intro _ (And.intro (get_map hj) ?_))
    intro n1 _ n2 _
    have hel := hae _ (List.getElem_mem hj)
    have loop : ∀ {p : Prop}, p → p := fun h => h
    refine And.intro (fun h5 => ?_) fun h5 => ?_
    · exact Exists.intro [] (ret_any rfl)
    refine And.intro (fun h6 => ?_) fun h6 => ?_
    · exact Exists.intro [] (ret_any rfl)
    refine LoopW.mk (Nat × Int) (fun p => p.1 ≤ t.acts[j].effs.length) (fun p => [(1, .int most), (5, .int p.2), (43, .t (.sl t.an 4 (t.acts.map tAct))), (44, .int (t.acts.map tAct).length), (45, .int j), (69, .t (.sl t.acts[j].en 3 (t.acts[j].effs.map tEff))), (70, .int (t.acts[j].effs.map tEff).length), (71, .int p.1)])
      (fun _ => ⟨out, []⟩) (fun p => t.acts[j].effs.length - p.1) (0, n2) (Nat.zero_le _) ⟨rfl, rfl⟩ ?_
    rintro ⟨k, q⟩ hK
    simp only at hK
    refine And.intro (fun h7 => ?_) fun h7 => ?_
    · have hk : k < t.acts[j].effs.length := lt_of_dec h7
      refine And.intro (by omega) (Exists.intro _ (And.intro (get_map hk) ?_))
      intro q1 _ m hm
      rw [wrap64 (by omega) (by omega)] at hm
      subst hm
      exact Exists.intro (k + 1, q1) (And.intro (by show t.acts[j].effs.length - (k + 1) < t.acts[j].effs.length - k; omega) (And.intro hk (And.intro rfl rfl)))
    · intro m hm
      rw [wrap64 (by omega) (by omega)] at hm
      subst hm
      exact Exists.intro (j + 1, q) (And.intro (by show t.acts.length - (j + 1) < t.acts.length - j; omega) (And.intro hj (And.intro rfl rfl)))
  · refine And.intro (fun h8 => ?_) fun h8 => ?_
    · exact Exists.intro [] (ret_any rfl)
    · exact Exists.intro [] (ret_any rfl)
end Go.Fw

/- What the program's functions do, part 13: Valid. -/
namespace Go.Fw
open Go Go.Proofs
set_option maxRecDepth 10000

def kp39 : Kp := [(6, ([1, 3, 4, 38, 39, 40], [8, 288])), (14, ([3, 4, 57, 58, 59], [440])), (20, ([3, 4, 57, 58, 59, 100, 101, 102], [440]))]
theorem f39_spec (t : Task) (out : List Fr) : SpecP Try.prog 39 [.task t] out fun r ro => r = .bool (isB t) ∧ ro = [] := by
  refine spec_body cx_ok kp39 [] (fn := Try.f39) (by kernel_rfl) rfl (by kernel_rfl) rfl (by unfold FnOK; kernel_rfl) fun hok => ?_
  have hfm := le_max hok.1.1.1
  have ham := le_max hok.1.2.2.2.1.1
  refine And.intro (fun h1 => ?_) fun h1 => ?_
  · exact Exists.intro [] (ret_bool (by simp at h1; simp [isB]; omega) rfl)
  refine And.intro (fun h2 => ?_) fun h2 => ?_
  · exact Exists.intro [] (ret_bool (by simp at h2; simp [isB]; omega) rfl)
  refine SpecP.mono (f74_spec t.ni t.init (t.facts.map tS).length []) ?_
  rintro _ _ ⟨rfl, rfl⟩
  rw [List.length_map]
  refine And.intro (fun h3 => ?_) fun h3 => ?_
  rotate_left
  · exact Exists.intro [] (ret_bool (by simp [isB, h3]) rfl)
  refine SpecP.mono (f75_spec t.gn t.goal t.facts.length []) ?_
  rintro _ _ ⟨rfl, rfl⟩
  refine And.intro (fun h4 => ?_) fun h4 => ?_
  rotate_left
  · exact Exists.intro [] (ret_bool (by simp [isB, h4]) rfl)
  have hl1 : t.facts.length ≤ 200 := by simp at h1; omega
  have hl2 : t.acts.length ≤ 1000 := by simp at h2; omega
  refine LoopW.mk Nat (fun i => i ≤ t.facts.length ∧ (List.range i).all (chkS t.facts) = true)
    (fun i => [(1, .ptr (.cur 8) 0), (3, .int t.facts.length), (4, .mpr (.cur 288)), (38, .t (.sl t.fn 1 (t.facts.map tS))), (39, .int (t.facts.map tS).length), (40, .int i)])
    (fun i => ⟨out, [(8, .box [.t (.sl t.fn 1 (t.facts.map tS)), .t (.sl t.ni 1 (t.init.map tI)), .t (.sl t.gn 2 (t.goal.map tLit)), .t (.sl t.an 4 (t.acts.map tAct))]), (288, .mp .str (kvS (t.facts.take i)))]⟩) (fun i => t.facts.length - i) 0 ⟨Nat.zero_le _, rfl⟩ ⟨rfl, rfl⟩ fun i hI => ?_
  refine And.intro (fun h5 => ?_) fun h5 => ?_
  · have hi := lt_of_dec h5
    have ha : atS t.facts i = t.facts[i] := by simp [atS, hi]
    have hno : chkS t.facts i = false → isB t = false := fun h => by
      have : namesB t.facts = false := range_false hi h
      simp [isB, this]
    refine And.intro (by omega) (Exists.intro _ (And.intro (get_map hi) ?_))
    refine SpecP.mono (f76_spec t.facts[i] []) ?_
    rintro _ _ ⟨rfl, rfl⟩
    refine And.intro (fun h6 => ?_) fun h6 => ?_
    · refine Exists.intro _ (And.intro (look_kvS _ _) ?_)
      refine And.intro (fun h7 => ?_) fun h7 => ?_
      · exact Exists.intro [] (ret_bool (hno (by simp only [chkS, ha, h7]; simp)) rfl)
      · refine And.intro (by omega) (And.intro (by omega) ?_)
        refine Exists.intro (i + 1) (And.intro (by show t.facts.length - (i + 1) < t.facts.length - i; omega) (And.intro ⟨hi, range_step hI.2 (by simp only [chkS, ha, h6, h7]; simp)⟩ (And.intro rfl ?_)))
        have e : updKV (.string t.facts[i]) (.v (.bool true)) (kvS (t.facts.take i)) = kvS (t.facts.take (i + 1)) := by
          rw [upd_kvS _ _ h7, List.take_add_one]; simp [hi]
        show (⟨out, [_, (288, .mp .str (updKV (.string t.facts[i]) (.v (.bool true)) (kvS (t.facts.take i))))]⟩ : St) = _
        rw [e]
    · exact Exists.intro [] (ret_bool (hno (by simp only [chkS, ha, h6]; simp)) rfl)
  have hi : i = t.facts.length := by have := hI.1; have := ge_of_dec h5; omega
  have hnf : namesB t.facts = true := by have := hI.2; rw [hi] at this; exact this
  clear hI h5
  have hln : (t.acts.map (·.name)).length = t.acts.length := List.length_map ..
  refine LoopW.mk Nat (fun i => i ≤ t.acts.length ∧ (List.range i).all (chkS (t.acts.map (·.name))) = true ∧ (t.acts.take i).all (actB t.facts.length) = true)
    (fun i => [(3, .int t.facts.length), (4, .mpr (.cur 440)), (57, .t (.sl t.an 4 (t.acts.map tAct))), (58, .int (t.acts.map tAct).length), (59, .int i)])
    (fun i => ⟨out, [(440, .mp .str (kvS ((t.acts.map (·.name)).take i)))]⟩) (fun i => t.acts.length - i) 0 ⟨Nat.zero_le _, rfl, rfl⟩ ⟨rfl, rfl⟩ ?_
  intro i ⟨hi0, hnm, hall⟩
  refine And.intro (fun h6 => ?_) fun h6 => ?_
  · have hi : i < t.acts.length := lt_of_dec h6
    have hi' : i < (t.acts.map (·.name)).length := by rw [hln]; exact hi
    have ha : atS (t.acts.map (·.name)) i = t.acts[i].name := by simp [atS, hi]
    have hno : chkS (t.acts.map (·.name)) i = false → isB t = false := fun h => by
      have : namesB (t.acts.map (·.name)) = false := range_false hi' h
      simp [isB, this]
    have hact : ∀ (h : actB t.facts.length t.acts[i] = false), isB t = false := fun h => by simp [isB, all_false hi h]
    refine And.intro (by omega) (Exists.intro _ (And.intro (get_map hi) ?_))
    refine SpecP.mono (f76_spec t.acts[i].name []) ?_
    rintro _ _ ⟨rfl, rfl⟩
    refine And.intro (fun h7 => ?_) fun h7 => ?_
    rotate_left
    · exact Exists.intro [] (ret_bool (hno (by simp only [chkS, ha, h7]; simp)) rfl)
    refine Exists.intro _ (And.intro (look_kvS _ _) ?_)
    refine And.intro (fun h8 => ?_) fun h8 => ?_
    · exact Exists.intro [] (ret_bool (hno (by simp only [chkS, ha, h8]; simp)) rfl)
    refine And.intro (fun h9 => ?_) fun h9 => ?_
    · exact Exists.intro [] (ret_bool (hact (by simp at h9; simp [actB]; omega)) rfl)
    refine And.intro (fun h10 => ?_) fun h10 => ?_
    · exact Exists.intro [] (ret_bool (hact (by simp at h10; simp [actB]; omega)) rfl)
    refine SpecP.mono (f75_spec t.acts[i].pn t.acts[i].pre t.facts.length []) ?_
    rintro _ _ ⟨rfl, rfl⟩
    refine And.intro (fun h11 => ?_) fun h11 => ?_
    rotate_left
    · exact Exists.intro [] (ret_bool (hact (by simp [actB, h11])) rfl)
    refine And.intro (fun h12 => ?_) fun h12 => ?_
    · exact Exists.intro [] (ret_bool (hact (by simp at h12; simp [actB]; omega)) rfl)
    have hel : t.acts[i].effs.length ≤ 100 := by simp at h12; omega
    have e : updKV (.string t.acts[i].name) (.v (.bool true)) (kvS ((t.acts.map (·.name)).take i)) = kvS ((t.acts.map (·.name)).take (i + 1)) := by
      rw [upd_kvS _ _ h8, List.take_add_one]; simp [hi]
    refine LoopW.mk Nat (fun j => j ≤ t.acts[i].effs.length ∧ (t.acts[i].effs.take j).all (effB t.facts.length) = true)
      (fun j => [(3, .int t.facts.length), (4, .mpr (.cur 440)), (57, .t (.sl t.an 4 (t.acts.map tAct))), (58, .int (t.acts.map tAct).length), (59, .int i), (100, .t (.sl t.acts[i].en 3 (t.acts[i].effs.map tEff))), (101, .int (t.acts[i].effs.map tEff).length), (102, .int j)])
      (fun j => ⟨out, [(440, .mp .str (kvS ((t.acts.map (·.name)).take (i + 1))))]⟩) (fun j => t.acts[i].effs.length - j) 0 ⟨Nat.zero_le _, rfl⟩ ⟨rfl, by rw [← e]; rfl⟩ fun j hJ => ?_
    refine And.intro (fun k1 => ?_) fun k1 => ?_
    · have hj : j < t.acts[i].effs.length := lt_of_dec k1
      have heff : ∀ (h : effB t.facts.length t.acts[i].effs[j] = false), isB t = false := fun h => hact (by simp [actB, all_false hj h])
      refine And.intro (by omega) (Exists.intro _ (And.intro (get_map hj) ?_))
      refine SpecP.mono (f75_spec t.acts[i].effs[j].nil t.acts[i].effs[j].when_ t.facts.length []) ?_
      rintro _ _ ⟨rfl, rfl⟩
      refine And.intro (fun k2 => ?_) fun k2 => ?_
      rotate_left
      · exact Exists.intro [] (ret_bool (heff (by simp [effB, k2])) rfl)
      refine And.intro (fun k3 => ?_) fun k3 => ?_
      · exact Exists.intro [] (ret_bool (heff (by simp at k3; simp [effB]; omega)) rfl)
      refine And.intro (fun k4 => ?_) fun k4 => ?_
      · exact Exists.intro [] (ret_bool (heff (by simp at k4; simp [effB]; omega)) rfl)
      refine And.intro (by omega) (And.intro (by omega) ?_)
      exact Exists.intro (j + 1) (And.intro (by show t.acts[i].effs.length - (j + 1) < t.acts[i].effs.length - j; omega) (And.intro ⟨hj, all_step hj hJ.2 (by simp at k3 k4; simp [effB, k2]; omega)⟩ (And.intro rfl rfl)))
    · have he : t.acts[i].effs.all (effB t.facts.length) = true := all_end (ge_of_dec k1) hJ.2
      have hb : actB t.facts.length t.acts[i] = true := by simp at h9 h10 h12; simp [actB, h11, he]; omega
      refine And.intro (by omega) (And.intro (by omega) ?_)
      exact Exists.intro (i + 1) (And.intro (by show t.acts.length - (i + 1) < t.acts.length - i; omega) (And.intro ⟨hi, range_step hnm (by simp only [chkS, ha, h7, h8]; simp), all_step hi hall hb⟩ (And.intro rfl rfl)))
  · have hi : i = t.acts.length := by have := ge_of_dec h6; omega
    have hn2 : namesB (t.acts.map (·.name)) = true := by unfold namesB; rw [hln, ← hi]; exact hnm
    rw [hi, List.take_length] at hall
    exact Exists.intro [] (ret_bool (by simp [isB, h3, h4, hl1, hl2, hall, hnf, hn2]) rfl)

end Go.Fw

/- What the program's functions do, part 14: binary search; functions that take functions. -/
namespace Go.Fw
open Go Go.Proofs
set_option maxRecDepth 10000

theorem f124_spec (x : Int) (out : List Fr) : SpecP Try.prog 124 [.int x] out fun r ro => r = .bool false ∧ ro = [] := by
  refine spec_body cx_ok [] [] (fn := Try.f124) (by kernel_rfl) rfl (by kernel_rfl) rfl (by unfold FnOK; kernel_rfl) fun hok => ?_
  refine And.intro (fun h => ?_) fun h => ?_
  · simp at h
  · exact Exists.intro [] (ret_bool rfl rfl)
theorem f112_spec (x : Int) (out : List Fr) : SpecP Try.prog 112 [.int x] out fun r ro => r = .bool false ∧ ro = [] := by
  refine spec_body cx_ok [] [] (fn := Try.f112) (by kernel_rfl) rfl (by kernel_rfl) rfl (by unfold FnOK; kernel_rfl) fun hok => ?_
  refine And.intro (fun h => ?_) fun h => ?_
  · simp at h
  · exact Exists.intro [] (ret_bool rfl rfl)
theorem f111_spec (x y : Int) (out : List Fr) : SpecP Try.prog 111 [.int x, .int y] out fun r ro => r = .bool (decide (x < y)) ∧ ro = [] := by
  refine spec_body cx_ok [] [] (fn := Try.f111) (by kernel_rfl) rfl (by kernel_rfl) rfl (by unfold FnOK; kernel_rfl) fun hok => ?_
  refine SpecP.mono (f124_spec x []) ?_
  rintro _ _ ⟨rfl, rfl⟩
  refine And.intro (fun h => Bool.noConfusion h) fun _ => ?_
  refine And.intro (fun h => ?_) fun h => ?_
  · exact Exists.intro [] (ret_bool h rfl)
  · exact Exists.intro [] (ret_bool h rfl)

theorem rising_lt {l : List Int} {n : Int} (h : risingB l n = true) : ∀ j i (hj : j < l.length) (hi : i < j), l[i]'(by omega) < l[j] := by
  have hs : ∀ i, i < l.length → chkI l n i = true := fun i hi => List.all_eq_true.1 h i (List.mem_range.2 hi)
  intro j
  induction j with
  | zero => intro i _ hi; omega
  | succ j ih =>
    intro i hj hi
    have h1 := hs (j + 1) hj
    simp only [chkI, Bool.and_eq_true, Bool.or_eq_true, decide_eq_true_eq, beq_iff_eq] at h1
    have h2 : l[j]'(by omega) < l[j + 1] := by
      rcases h1.2 with h1 | h1
      · omega
      · rw [Nat.add_sub_cancel] at h1
        rwa [at0_eq hj, at0_eq (show j < l.length by omega)] at h1
    rcases Nat.lt_or_ge i j with hij | hij
    · exact Int.lt_trans (ih i (by omega) hij) h2
    · have : i = j := by omega
      subst this; exact h2
theorem rising_in {l : List Int} {n : Int} (h : risingB l n = true) : ∀ x ∈ l, 0 ≤ x ∧ x < n := fun x hx => by
  obtain ⟨i, hi, rfl⟩ := List.getElem_of_mem hx
  have := List.all_eq_true.1 h i (List.mem_range.2 hi)
  simp only [chkI, Bool.and_eq_true, decide_eq_true_eq, at0_eq hi] at this
  exact this.1

theorem rising_len {l : List Int} {n : Int} (h : risingB l n = true) (hn : n ≤ 1000000000) : l.length ≤ 1000000000 := by
  have key : ∀ i (hi : i < l.length), (i : Int) ≤ l[i] := by
    intro i
    induction i with
    | zero => intro hi; exact (rising_in h _ (List.getElem_mem hi)).1
    | succ i ih => intro hi; have := ih (by omega); have := rising_lt h (i + 1) i hi (by omega); omega
  rcases Nat.eq_zero_or_pos l.length with h0 | h0
  · omega
  · have h1 := key (l.length - 1) (by omega)
    have h2 := (rising_in h _ (List.getElem_mem (show l.length - 1 < l.length by omega))).2
    omega
def kp106 : Kp := [(3, ([0, 1, 6, 7, 8], []))]
theorem f106_spec (n1 : Bool) (l : List Int) (n x : Int) (hs : risingB l n = true) (hn : n ≤ 1000000000) (out : List Fr) :
    SpecP Try.prog 106 [.ints n1 l, .int x] out fun r ro => ∃ p : Int, r = .tup [.int p, .bool (hasB l x)] ∧ ro = [] := by
  refine spec_body cx_ok kp106 [] (fn := Try.f106) (by kernel_rfl) rfl (by kernel_rfl) rfl (by unfold FnOK; kernel_rfl) fun hok => ?_
  have hmx := le_max hok.1.1
  have hlt := rising_lt hs
  have hln := rising_len hs hn
  refine LoopW.mk (Nat × Nat) (fun p => p.1 ≤ p.2 ∧ p.2 ≤ l.length ∧ (∀ i (h : i < l.length), i < p.1 → l[i] < x) ∧ (∀ i (h : i < l.length), p.2 ≤ i → x ≤ l[i]))
    (fun p => [(0, .ints n1 l), (1, .int x), (6, .int (l.map tI).length), (7, .int p.1), (8, .int p.2)]) (fun _ => ⟨out, []⟩) (fun p => p.2 - p.1) (0, (l.map tI).length) ⟨Nat.zero_le _, by simp, fun i _ h => by omega, fun i h h2 => by simp at h2; omega⟩ ⟨rfl, rfl⟩ ?_
  rintro ⟨a, b⟩ ⟨hab, hbl, h1, h2⟩
  simp only at hab hbl h1 h2
  refine And.intro (fun k1 => ?_) fun k1 => ?_
  · have hlt' : a < b := by simpa using k1
    refine And.intro (by omega) (And.intro (by omega) (And.intro (by omega) (And.intro (by omega) (And.intro (by omega) (And.intro rfl (And.intro (by omega) (And.intro (by omega) (And.intro (by omega) (And.intro (by omega) ?_)))))))))
    have hm : ((a : Int) + b) / 2 = ((a + b) / 2 : Nat) := by omega
    rw [hm]
    have hml : (a + b) / 2 < l.length := by omega
    refine And.intro (by omega) (Exists.intro _ (And.intro (get_map hml) ?_))
    refine SpecP.mono (f111_spec _ _ []) ?_
    rintro _ _ ⟨rfl, rfl⟩
    refine And.intro (fun k2 => ?_) fun k2 => ?_
    · refine And.intro (by omega) (And.intro (by omega) ?_)
      refine Exists.intro ((a + b) / 2 + 1, b) (And.intro (by show b - ((a + b) / 2 + 1) < b - a; omega) (And.intro ⟨by show (a + b) / 2 + 1 ≤ b; omega, hbl, fun i hi hia => ?_, h2⟩ (And.intro rfl rfl)))
      have hia : i < (a + b) / 2 + 1 := hia
      have k2 : l[(a + b) / 2] < x := by simpa using k2
      rcases Nat.lt_or_ge i ((a + b) / 2) with hj | hj
      · exact Int.lt_trans (hlt _ i hml hj) k2
      · have : i = (a + b) / 2 := by omega
        subst this; exact k2
    · refine Exists.intro (a, (a + b) / 2) (And.intro (by show (a + b) / 2 - a < b - a; omega) (And.intro ⟨by show a ≤ (a + b) / 2; omega, by show (a + b) / 2 ≤ l.length; omega, h1, fun i hi hia => ?_⟩ (And.intro rfl rfl)))
      have hia : (a + b) / 2 ≤ i := hia
      have k2 : x ≤ l[(a + b) / 2] := by simpa using k2
      rcases Nat.lt_or_ge ((a + b) / 2) i with hj | hj
      · have := hlt i _ hi hj; omega
      · have : i = (a + b) / 2 := by omega
        subst this; exact k2
  · have hba : a = b := by simp at k1; omega
    subst hba
    refine And.intro (fun k2 => ?_) fun k2 => ?_
    · have hal : a < l.length := by simpa using k2
      refine And.intro (by omega) (Exists.intro _ (And.intro (get_map hal) ?_))
      refine And.intro (fun k3 => ?_) fun k3 => ?_
      · have hh : hasB l x = true := any_true hal (by simpa using k3)
        rw [hh]
        exact Exists.intro [] ⟨_, rfl, rfl⟩
      · have hh : hasB l x = false := by
          cases hb : hasB l x with
          | false => rfl
          | true =>
            obtain ⟨y, hy, hyx⟩ := List.any_eq_true.1 hb
            obtain ⟨i, hi, rfl⟩ := List.getElem_of_mem hy
            have hyx : l[i] = x := by simpa using hyx
            have k3 : ¬ l[a] = x := by simpa using k3
            rcases Nat.lt_trichotomy i a with g | g | g
            · have := h1 i hi g; omega
            · subst g; exact absurd hyx k3
            · have := h2 a hal (Nat.le_refl _); have := hlt i a hi g; omega
        refine And.intro (by omega) (Exists.intro _ (And.intro (get_map hal) ?_))
        refine SpecP.mono (f112_spec _ []) ?_
        rintro _ _ ⟨rfl, rfl⟩
        refine And.intro (fun h => Bool.noConfusion h) fun _ => ?_
        rw [hh]
        exact Exists.intro [] ⟨_, rfl, rfl⟩
    · have hal : l.length ≤ a := by simpa using k2
      have hh : hasB l x = false := by
        cases hb : hasB l x with
        | false => rfl
        | true =>
          obtain ⟨y, hy, hyx⟩ := List.any_eq_true.1 hb
          obtain ⟨i, hi, rfl⟩ := List.getElem_of_mem hy
          have hyx : l[i] = x := by simpa using hyx
          have := h1 i hi (by omega); omega
      rw [hh]
      exact Exists.intro [] ⟨_, rfl, rfl⟩

theorem f93_spec (n1 : Bool) (l : List Int) (n x : Int) (hs : risingB l n = true) (hn : n ≤ 1000000000) (out : List Fr) : SpecP Try.prog 93 [.ints n1 l, .int x] out fun r ro => r = .bool (hasB l x) ∧ ro = [] := by
  refine spec_body cx_ok [] [] (fn := Try.f93) (by kernel_rfl) rfl (by kernel_rfl) rfl (by unfold FnOK; kernel_rfl) fun hok => ?_
  refine SpecP.mono (f106_spec n1 l n x hs hn []) ?_
  rintro _ _ ⟨p, rfl, rfl⟩
  refine And.intro (fun h => ?_) fun h => ?_
  · exact Exists.intro [] (ret_bool h rfl)
  · exact Exists.intro [] (ret_bool h rfl)

end Go.Fw

/- What the program's functions do, part 15: functions that take functions; True, Fine, all. -/
namespace Go.Fw
open Go Go.Proofs
set_option maxRecDepth 10000

def kp105 : Kp := [(2, ([0, 1, 7, 8], []))]
theorem f105_spec (n1 : Bool) (l : List Lit) (fc k s : Nat) (p : Lit → Bool) (out : List Fr)
    (hc : ∀ x ∈ l, SpecP Try.prog fc [.lit x, .ptr (.fr (k + 1) s) 0] ([] :: out) fun r ro => r = .bool (p x) ∧ ro = []) :
    SpecP Try.prog 105 [.lits n1 l, .fn fc [(.fr k s, 0)]] out fun r ro => ∃ j : Int, r = .int j ∧ decide (0 ≤ j) = l.any p ∧ ro = [] := by
  refine spec_body cx_ok kp105 [] (fn := Try.f105) (by kernel_rfl) rfl (by kernel_rfl) rfl (by unfold FnOK; kernel_rfl) fun hok => ?_
  have hmx := le_max hok.1.1
  refine LoopW.mk Nat (fun i => i ≤ l.length ∧ (l.take i).any p = false) (fun i => [(0, .lits n1 l), (1, .fn fc [(.fr k s, 0)]), (7, .int (l.map tLit).length), (8, .int i)]) (fun _ => ⟨out, []⟩) (fun i => l.length - i) 0 ⟨Nat.zero_le _, rfl⟩ ⟨rfl, rfl⟩ fun i hI => ?_
  refine And.intro (fun h1 => ?_) fun h1 => ?_
  · have hi := lt_of_dec h1
    refine And.intro (by omega) (Exists.intro _ (And.intro (get_map hi) ?_))
    refine SpecP.mono (hc _ (List.getElem_mem hi)) ?_
    rintro _ _ ⟨rfl, rfl⟩
    refine And.intro trivial (And.intro trivial ?_)
    refine And.intro (fun h2 => ?_) fun h2 => ?_
    · exact Exists.intro [] ⟨_, rfl, by rw [any_true hi h2]; simp, rfl⟩
    · refine And.intro (by omega) (And.intro (by omega) ?_)
      exact Exists.intro (i + 1) (And.intro (by show l.length - (i + 1) < l.length - i; omega) (And.intro ⟨hi, any_step hi hI.2 h2⟩ (And.intro rfl rfl)))
  · exact Exists.intro [] ⟨_, rfl, by rw [any_end (ge_of_dec h1) hI.2]; rfl, rfl⟩

theorem f91_spec (n1 : Bool) (l : List Lit) (fc k s : Nat) (p : Lit → Bool) (out : List Fr)
    (hc : ∀ x ∈ l, SpecP Try.prog fc [.lit x, .ptr (.fr (k + 2) s) 0] ([] :: [] :: out) fun r ro => r = .bool (p x) ∧ ro = []) :
    SpecP Try.prog 91 [.lits n1 l, .fn fc [(.fr k s, 0)]] out fun r ro => r = .bool (l.any p) ∧ ro = [] := by
  refine spec_body cx_ok [] [] (fn := Try.f91) (by kernel_rfl) rfl (by kernel_rfl) rfl (by unfold FnOK; kernel_rfl) fun hok => ?_
  refine SpecP.mono (f105_spec n1 l fc (k + 1) s p _ hc) ?_
  rintro _ _ ⟨j, rfl, hj, rfl⟩
  refine And.intro trivial (And.intro trivial ?_)
  refine And.intro (fun h => ?_) fun h => ?_
  · exact Exists.intro [] (ret_bool (by rw [← hj]; simpa using h) rfl)
  · exact Exists.intro [] (ret_bool (by rw [← hj]; simpa using h) rfl)

def od92 : Od := [(1, [(0, .pure), (1, .pure), (2, .pure), (4, .pure), (5, .pure), (3, .eff), (6, .pure), (7, .pure)])]
theorem f92_spec (n1 : Bool) (s : List Int) (n : Int) (hs : risingB s n = true) (hn : n ≤ 1000000000) (x : Lit) (fr0 fr1 fr2 : Fr) (out : List Fr) :
    SpecP Try.prog 92 [.lit x, .ptr (.fr 2 16) 0] (fr0 :: fr1 :: ((16, .box [.ints n1 s]) :: fr2) :: out) fun r ro => r = .bool (hasB s x.fact == x.neg) ∧ ro = [] := by
  refine spec_body cx_ok [] od92 (fn := Try.f92) (by kernel_rfl) rfl (by kernel_rfl) rfl (by unfold FnOK; kernel_rfl) fun hok => ?_
  refine Exists.intro _ (And.intro rfl ?_)
  refine And.intro (fun h1 => ?_) fun h1 => ?_
  · refine SpecP.mono (f93_spec n1 s n x.fact hs hn []) ?_
    rintro _ _ ⟨rfl, rfl⟩
    refine And.intro ⟨rfl, rfl, rfl⟩ ?_
    refine And.intro (fun h2 => ?_) fun h2 => ?_
    · refine And.intro (fun h3 => ?_) fun h3 => ?_
      · exact Exists.intro [] (ret_bool (by rw [h1, h2]; exact h3) rfl)
      · exact Exists.intro [] (ret_bool (by rw [h1, h2]; exact h3) rfl)
    · refine And.intro (fun h3 => ?_) fun h3 => ?_
      · exact Exists.intro [] (ret_bool (by rw [h1, h2]; exact h3) rfl)
      · exact Exists.intro [] (ret_bool (by rw [h1, h2]; exact h3) rfl)
  · refine SpecP.mono (f93_spec n1 s n x.fact hs hn []) ?_
    rintro _ _ ⟨rfl, rfl⟩
    refine And.intro ⟨rfl, rfl, rfl⟩ ?_
    refine And.intro (fun h2 => ?_) fun h2 => ?_
    · refine And.intro (fun h3 => ?_) fun h3 => ?_
      · exact Exists.intro [] (ret_bool (by rw [h1, h2]; exact h3) rfl)
      · exact Exists.intro [] (ret_bool (by rw [h1, h2]; exact h3) rfl)
    · refine And.intro (fun h3 => ?_) fun h3 => ?_
      · exact Exists.intro [] (ret_bool (by rw [h1, h2]; exact h3) rfl)
      · exact Exists.intro [] (ret_bool (by rw [h1, h2]; exact h3) rfl)

theorem not_any {l : List Lit} {p q : Lit → Bool} (h : ∀ x, q x = !p x) : l.all q = !l.any p := by
  induction l with
  | nil => rfl
  | cons x r ih => simp only [List.all_cons, List.any_cons, ih, h, Bool.not_or]

theorem f61_spec (n1 n2 : Bool) (s : List Int) (l : List Lit) (n : Int) (hs : risingB s n = true) (hn : n ≤ 1000000000) (out : List Fr) :
    SpecP Try.prog 61 [.ints n1 s, .lits n2 l] out fun r ro => r = .bool (holdsB s l) ∧ ro = [] := by
  refine spec_body cx_ok [] [] (fn := Try.f61) (by kernel_rfl) rfl (by kernel_rfl) rfl (by unfold FnOK; kernel_rfl) fun hok => ?_
  refine SpecP.mono (f91_spec n2 l 92 0 16 (fun x => hasB s x.fact == x.neg) _ (fun x _ => f92_spec n1 s n hs hn x [] [] [] out)) ?_
  rintro _ _ ⟨rfl, rfl⟩
  refine And.intro trivial (And.intro trivial ?_)
  have e : holdsB s l = !l.any (fun x => hasB s x.fact == x.neg) := not_any fun x => by cases hasB s x.fact <;> cases x.neg <;> rfl
  refine And.intro (fun h => ?_) fun h => ?_
  · exact Exists.intro [] (ret_bool (e.trans (congrArg not h)) rfl)
  · exact Exists.intro [] (ret_bool (e.trans (congrArg not h)) rfl)

def fineI (t : Task) (s : List Int) : Int := if isB t then (if risingB s t.facts.length then 0 else 20) else 10
/-! ### all -/
def bitAt (b : List Bool) (l : Lit) : Bool := b.getD (codeI l).toNat false
def inB (b : List Bool) (l : Lit) : Prop := big l.fact ∧ 0 ≤ codeI l ∧ codeI l < b.length
theorem bit_get {b : List Bool} {l : Lit} (h : inB b l) : (b.map tB)[(codeI l).toNat]? = some (tB (bitAt b l)) := by
  obtain ⟨_, h0, h1⟩ := h
  have : (codeI l).toNat < b.length := by omega
  simp [bitAt, this]

def od111 : Od := [(1, [(0, .pure), (1, .pure), (2, .eff), (3, .pure), (4, .pure), (5, .pure), (6, .pure)])]
end Go.Fw

/- What is reached: the plain law (no program in sight but for the data). -/
namespace Go.Fw
open Go Go.Proofs

inductive Rch (t : Task) (s : List Int) (cnt : Nat → Lit → Bool) : Nat → Prop
  | ini (k : Nat) (hk : k < 2 * t.facts.length) (h : (hasB s ((k / 2 : Nat) : Int) != decide (k % 2 = 1)) = true) : Rch t s cnt k
  | eff (a : Nat) (x : Actn) (e : Eff) (hx : t.acts[a]? = some x) (he : e ∈ x.effs) (hc : cnt a e.lit = true) (hp : ∀ l ∈ x.pre, Rch t s cnt (codeI l).toNat) (hw : ∀ l ∈ e.when_, Rch t s cnt (codeI l).toNat) : Rch t s cnt (codeI e.lit).toNat

structure IsR (t : Task) (s : List Int) (cnt : Nat → Lit → Bool) (b : List Bool) : Prop where
  len : b.length = 2 * t.facts.length
  iff : ∀ k, b.getD k false = true ↔ Rch t s cnt k

theorem IsR.unique {t s cnt b b'} (h : IsR t s cnt b) (h' : IsR t s cnt b') : b = b' := by
  refine List.ext_getElem (by rw [h.len, h'.len]) fun k hk hk' => ?_
  have h1 := h.iff k
  have h2 := h'.iff k
  simp only [List.getD_eq_getElem?_getD, List.getElem?_eq_getElem hk, List.getElem?_eq_getElem hk', Option.getD_some] at h1 h2
  have := h1.trans h2.symm
  cases hb : b[k] <;> cases hb' : b'[k] <;> simp [hb, hb'] at this ⊢

theorem Rch.congr {t s} {cnt cnt' : Nat → Lit → Bool} (hc : ∀ a x e, t.acts[a]? = some x → e ∈ x.effs → cnt a e.lit = cnt' a e.lit) {k : Nat} (h : Rch t s cnt k) : Rch t s cnt' k := by
  induction h with
  | ini k hk h => exact .ini k hk h
  | eff a x e hx he hcc hp hw ihp ihw => exact .eff a x e hx he (by rw [← hc a x e hx he]; exact hcc) ihp ihw
theorem IsR.congr {t s b} {cnt cnt' : Nat → Lit → Bool} (hc : ∀ a x e, t.acts[a]? = some x → e ∈ x.effs → cnt a e.lit = cnt' a e.lit) (h : IsR t s cnt b) : IsR t s cnt' b :=
  ⟨h.len, fun k => (h.iff k).trans ⟨Rch.congr hc, Rch.congr fun a x e hx he => (hc a x e hx he).symm⟩⟩

/-! ### Tasks that are valid -/
def litIn (n : Nat) (l : Lit) : Prop := 0 ≤ l.fact ∧ l.fact < n
structure TaskOK (t : Task) : Prop where
  facts : t.facts.length ≤ 200
  acts : t.acts.length ≤ 1000
  goal : ∀ l ∈ t.goal, litIn t.facts.length l
  effs : ∀ x ∈ t.acts, x.effs.length ≤ 100
  cost : ∀ x ∈ t.acts, 0 ≤ x.cost ∧ x.cost ≤ 100000
  pre : ∀ x ∈ t.acts, ∀ l ∈ x.pre, litIn t.facts.length l
  lit : ∀ x ∈ t.acts, ∀ e ∈ x.effs, litIn t.facts.length e.lit
  whn : ∀ x ∈ t.acts, ∀ e ∈ x.effs, ∀ l ∈ e.when_, litIn t.facts.length l

theorem cond_in {l : List Lit} {n : Nat} (h : condB l n = true) : ∀ x ∈ l, litIn n x := fun _ hx => rising_in h _ (List.mem_map_of_mem hx)
theorem task_ok {t : Task} (h : isB t = true) : TaskOK t := by
  simp only [isB, Bool.and_eq_true, decide_eq_true_eq] at h
  obtain ⟨⟨⟨⟨⟨⟨h1, _⟩, _⟩, h4⟩, h5⟩, h6⟩, _⟩ := h
  have ha : ∀ x ∈ t.acts, actB t.facts.length x = true := List.all_eq_true.1 h6
  have hp : ∀ x ∈ t.acts, ((0 ≤ x.cost ∧ x.cost ≤ 100000) ∧ condB x.pre t.facts.length = true) ∧ x.effs.length ≤ 100 ∧ ∀ e ∈ x.effs, effB t.facts.length e = true := fun x hx => by
    have := ha x hx
    simp only [actB, Bool.and_eq_true, decide_eq_true_eq] at this
    exact ⟨⟨⟨this.1.1.1.1, this.1.1.1.2⟩, this.1.1.2⟩, this.1.2, List.all_eq_true.1 this.2⟩
  have hq : ∀ x ∈ t.acts, ∀ e ∈ x.effs, condB e.when_ t.facts.length = true ∧ litIn t.facts.length e.lit := fun x hx e he => by
    have := (hp x hx).2.2 e he
    simp only [effB, Bool.and_eq_true, decide_eq_true_eq] at this
    exact ⟨this.1.1, this.1.2, this.2⟩
  exact ⟨h1, h5, cond_in h4, fun x hx => (hp x hx).2.1, fun x hx => (hp x hx).1.1, fun x hx => cond_in (hp x hx).1.2, fun x hx e he => (hq x hx e he).2, fun x hx e he => cond_in (hq x hx e he).1⟩

theorem litIn.inB {n : Nat} {l : Lit} {b : List Bool} (h : litIn n l) (hn : n ≤ 200) (hb : b.length = 2 * n) : inB b l := by
  obtain ⟨h0, h1⟩ := h
  refine ⟨⟨by omega, by omega⟩, ?_, ?_⟩ <;> (unfold codeI; split <;> omega)

/-! ### Bits -/
theorem getD_set {b : List Bool} {i j : Nat} {v : Bool} (hi : i < b.length) : (b.set i v).getD j false = if i = j then v else b.getD j false := by
  simp only [List.getD_eq_getElem?_getD, List.getElem?_set]
  by_cases h : i = j
  · subst h; simp [hi]
  · simp [h]
theorem getD_set_true {b : List Bool} {i j : Nat} (h : b.getD j false = true) : (b.set i true).getD j false = true := by
  by_cases hi : i < b.length
  · rw [getD_set hi]
    split
    · rfl
    · exact h
  · rw [List.set_eq_of_length_le (by omega)]; exact h
theorem falses_set {b : List Bool} {i : Nat} (hi : i < b.length) (h : b.getD i false = false) : (b.set i true).count false < b.count false := by
  have h' : b[i] = false := by simpa [hi] using h
  have hpos : 0 < b.count false := List.count_pos_iff.2 (by rw [← h']; exact List.getElem_mem hi)
  rw [List.count_set hi, h']
  simp
  omega
theorem setHas_mono {b : List Bool} {i : Nat} {l : List Lit} (h : setHas b l = true) : setHas (b.set i true) l = true := by
  rw [setHas, List.all_eq_true] at *
  exact fun x hx => getD_set_true (h x hx)

def Sound (t : Task) (s : List Int) (cnt : Nat → Lit → Bool) (b : List Bool) : Prop := ∀ k, b.getD k false = true → Rch t s cnt k
theorem Sound.has {t s cnt b} (h : Sound t s cnt b) {l : List Lit} (hl : setHas b l = true) : ∀ x ∈ l, Rch t s cnt (codeI x).toNat := fun x hx => h _ (List.all_eq_true.1 hl x hx)
theorem Sound.set {t s cnt b} (h : Sound t s cnt b) {k : Nat} (hk : Rch t s cnt k) : Sound t s cnt (b.set k true) := fun j hj => by
  by_cases hi : k < b.length
  · rw [getD_set hi] at hj
    split at hj
    · rename_i he; rw [← he]; exact hk
    · exact h j hj
  · rw [List.set_eq_of_length_le (by omega)] at hj; exact h j hj
def CloE (cnt : Nat → Lit → Bool) (b : List Bool) (a : Nat) (e : Eff) : Prop := cnt a e.lit = true → setHas b e.when_ = true → bitAt b e.lit = true
def Clo (t : Task) (cnt : Nat → Lit → Bool) (b : List Bool) (a : Nat) : Prop := ∀ x, t.acts[a]? = some x → setHas b x.pre = true → ∀ e ∈ x.effs, CloE cnt b a e
def Ini (n : Nat) (l : List Int) (b : List Bool) : Prop := b.length = 2 * n ∧ ∀ k, k < 2 * n → b.getD k false = (hasB l ((k / 2 : Nat) : Int) != decide (k % 2 = 1))

theorem isR_of {t s cnt b} (hl : b.length = 2 * t.facts.length) (hs : Sound t s cnt b) (hi : ∀ k, k < 2 * t.facts.length → (hasB s ((k / 2 : Nat) : Int) != decide (k % 2 = 1)) = true → b.getD k false = true) (hc : ∀ a, a < t.acts.length → Clo t cnt b a) : IsR t s cnt b := by
  refine ⟨hl, fun k => ⟨hs k, fun h => ?_⟩⟩
  induction h with
  | ini k hk h => exact hi k hk h
  | eff a x e hx he hcc hp hw ihp ihw =>
    exact hc a (List.getElem?_eq_some_iff.1 hx).1 x hx (List.all_eq_true.2 ihp) e he hcc (List.all_eq_true.2 ihw)

theorem Ini.sound {t s cnt b} (h : Ini t.facts.length s b) : Sound t s cnt b := fun k hk => by
  by_cases hl : k < 2 * t.facts.length
  · exact .ini k hl (by rw [← h.2 k hl]; exact hk)
  · have : b.getD k false = false := by simp only [List.getD_eq_getElem?_getD]; rw [List.getElem?_eq_none (by rw [h.1]; omega)]; rfl
    rw [this] at hk; cases hk

def Odds (n i : Nat) (b : List Bool) : Prop := b.length = 2 * n ∧ ∀ k, k < 2 * n → b.getD k false = (decide (k / 2 < i) && decide (k % 2 = 1))
theorem Odds.zero (n : Nat) : Odds n 0 (List.replicate (2 * n) false) := ⟨by simp, fun k hk => by simp [List.getD_eq_getElem?_getD, hk]⟩
theorem Odds.step {n i : Nat} {b : List Bool} (h : Odds n i b) (hi : i < n) : Odds n (i + 1) (b.set (2 * i + 1) true) := by
  refine ⟨by simp [h.1], fun k hk => ?_⟩
  rw [getD_set (by rw [h.1]; omega)]
  split
  · rename_i he; subst he
    have h1 : (2 * i + 1) / 2 < i + 1 := by omega
    have h2 : (2 * i + 1) % 2 = 1 := by omega
    simp only [h1, h2, decide_true, Bool.and_self]
  · rename_i he
    rw [h.2 k hk]
    by_cases h2 : k % 2 = 1
    · have : k / 2 < i ↔ k / 2 < i + 1 := by omega
      simp only [this]
    · simp only [h2, decide_false, Bool.and_false]
theorem Odds.ini {n : Nat} {b : List Bool} (h : Odds n n b) : Ini n [] b := ⟨h.1, fun k hk => by
  rw [h.2 k hk]
  have : k / 2 < n := by omega
  simp [this, hasB]⟩
theorem hasB_snoc (l : List Int) (f x : Int) : hasB (l ++ [f]) x = (hasB l x || f == x) := by simp [hasB, List.any_append]
theorem Ini.step {n f : Nat} {l : List Int} {b : List Bool} (h : Ini n l b) (hf : f < n) : Ini n (l ++ [(f : Int)]) ((b.set (2 * f) true).set (2 * f + 1) false) := by
  refine ⟨by simp [h.1], fun k hk => ?_⟩
  rw [getD_set (by simp [h.1]; omega), getD_set (by rw [h.1]; omega), hasB_snoc]
  by_cases h1 : 2 * f + 1 = k
  · subst h1
    have e1 : (2 * f + 1) / 2 = f := by omega
    have e2 : (2 * f + 1) % 2 = 1 := by omega
    simp [e1, e2]
  · by_cases h2 : 2 * f = k
    · subst h2
      have e1 : 2 * f / 2 = f := by omega
      have e2 : 2 * f % 2 = 0 := by omega
      simp [e1, e2]
    · rw [if_neg h1, if_neg h2, h.2 k hk]
      have : ((f : Int) == ((k / 2 : Nat) : Int)) = false := by simp; omega
      rw [this, Bool.or_false]

theorem bits_get {n : Nat} {l : List Int} (hl : ∀ x ∈ l, 0 ≤ x ∧ x < n) {f : Nat} (hf : f < n) : (bitsL n l).getD f false = hasB l f := by
  have : ∀ (l : List Int) (b : List Bool), (∀ x ∈ l, 0 ≤ x ∧ x < n) → b.length = n → (l.foldl (fun b x => b.set x.toNat true) b).getD f false = (b.getD f false || hasB l f) := by
    intro l
    induction l with
    | nil => intro b _ _; simp [hasB]
    | cons x r ih =>
      intro b hx hb
      rw [List.foldl_cons, ih _ (fun y hy => hx y (List.mem_cons_of_mem _ hy)) (by simp [hb])]
      have hx0 := hx x (List.mem_cons_self ..)
      rw [getD_set (by omega)]
      simp only [hasB, List.any_cons]
      by_cases he : x.toNat = f
      · have : (x == (f : Int)) = true := by simp; omega
        simp [he, this]
      · have : (x == (f : Int)) = false := by simp; omega
        simp [he, this]
  rw [bitsL, this l _ hl (by simp)]
  simp [List.getD_eq_getElem?_getD, hf]

def Half (n : Nat) (l : List Int) (i : Nat) (b : List Bool) : Prop := b.length = 2 * n ∧ ∀ k, k < 2 * n → b.getD k false = (decide (k / 2 < i) && (hasB l ((k / 2 : Nat) : Int) != decide (k % 2 = 1)))
theorem Half.zero (n : Nat) (l : List Int) : Half n l 0 (List.replicate (2 * n) false) := ⟨by simp, fun k hk => by simp [List.getD_eq_getElem?_getD, hk]⟩
theorem Half.step {n i : Nat} {l : List Int} {b : List Bool} (h : Half n l i b) (hi : i < n) : Half n l (i + 1) (b.set (codeI ⟨(i : Int), !hasB l i⟩).toNat true) := by
  refine ⟨by simp [h.1], fun k hk => ?_⟩
  have hc : (codeI ⟨(i : Int), !hasB l i⟩).toNat = if hasB l i = true then 2 * i else 2 * i + 1 := by
    unfold codeI
    cases hasB l i <;> simp <;> omega
  rw [hc, getD_set (by rw [h.1]; split <;> omega), h.2 k hk]
  by_cases hki : k / 2 = i
  · have h1 : k / 2 < i + 1 := by omega
    have h2 : ¬ k / 2 < i := by omega
    simp only [h1, h2, decide_true, decide_false, Bool.true_and, Bool.false_and]
    rw [hki]
    cases hb : hasB l i
    · by_cases hk1 : k % 2 = 1
      · have : 2 * i + 1 = k := by omega
        simp [this, hk1]
      · have : ¬ 2 * i + 1 = k := by omega
        simp [this, hk1]
    · by_cases hk1 : k % 2 = 1
      · have : ¬ 2 * i = k := by omega
        simp [this, hk1]
      · have : 2 * i = k := by omega
        simp [this, hk1]
  · have h1 : k / 2 < i + 1 ↔ k / 2 < i := by omega
    have h2 : ¬ (if hasB l i = true then 2 * i else 2 * i + 1) = k := by split <;> omega
    simp only [h1, h2, if_false]
theorem Half.ini {n : Nat} {l : List Int} {b : List Bool} (h : Half n l n b) : Ini n l b := ⟨h.1, fun k hk => by
  rw [h.2 k hk]
  have : k / 2 < n := by omega
  simp [this]⟩

end Go.Fw

/- A result's own rows, given away for ever; nil slices deep in closed data. -/
namespace Go.Fw
open Go Go.Proofs
set_option maxRecDepth 10000

/-! ### Nil slices deep in closed data -/
def T.un : T → T
  | .v x => .v x
  | .sl true _ [] => .sl true 0 []
  | .sl n sz es => .sl n sz (unEs es)
where
  unEs : List (List T) → List (List T)
    | [] => []
    | el :: r => unEl el :: unEs r
  unEl : List T → List T
    | [] => []
    | x :: r => T.un x :: unEl r
theorem unEl_get : ∀ {el el' : List T}, T.un.unEl el' = T.un.unEl el → el'.length = el.length ∧ ∀ (j : Nat) (x' : T), el'[j]? = some x' → ∃ x, el[j]? = some x ∧ x'.un = x.un
  | [], [], _ => ⟨rfl, fun j x h => by simp at h⟩
  | [], _ :: _, h => by simp [T.un.unEl] at h
  | _ :: _, [], h => by simp [T.un.unEl] at h
  | x :: r, x' :: r', h => by
    simp only [T.un.unEl, List.cons.injEq] at h
    obtain ⟨h1, h2⟩ := unEl_get h.2
    refine ⟨by simp [h1], fun j y hy => ?_⟩
    cases j with
    | zero => simp at hy; subst hy; exact ⟨x, rfl, h.1⟩
    | succ j => simpa using h2 j y (by simpa using hy)
theorem unEs_get : ∀ {es es' : List (List T)}, T.un.unEs es' = T.un.unEs es → es'.length = es.length ∧ ∀ (i : Nat) (e' : List T), es'[i]? = some e' → ∃ e, es[i]? = some e ∧ T.un.unEl e' = T.un.unEl e
  | [], [], _ => ⟨rfl, fun j x h => by simp at h⟩
  | [], _ :: _, h => by simp [T.un.unEs] at h
  | _ :: _, [], h => by simp [T.un.unEs] at h
  | x :: r, x' :: r', h => by
    simp only [T.un.unEs, List.cons.injEq] at h
    obtain ⟨h1, h2⟩ := unEs_get h.2
    refine ⟨by simp [h1], fun j y hy => ?_⟩
    cases j with
    | zero => simp at hy; subst hy; exact ⟨x, rfl, h.1⟩
    | succ j => simpa using h2 j y (by simpa using hy)
theorem un_sl {sz : Nat} {es : List (List T)} : (T.sl false sz es).un = .sl false sz (T.un.unEs es) := by cases es <;> rfl
theorem un_inv {y : T} : ∀ {sz : Nat} {es : List (List T)}, y.un = .sl false sz (T.un.unEs es) → ∃ es', y = .sl false sz es' ∧ T.un.unEs es' = T.un.unEs es := by
  intro sz es h
  match y, h with
  | .v x, h => simp [T.un] at h
  | .sl true a [], h => simp [T.un] at h
  | .sl true a (b :: r), h => simp [T.un] at h
  | .sl false a es', h => rw [un_sl] at h; simp only [T.sl.injEq, true_and] at h; exact ⟨es', by rw [h.1], h.2⟩
theorem VT.un {RO : Nat → Prop} {w : World} {x : T} {v : Value} (h : VT RO w x v) : ∀ y : T, y.un = x.un → VT RO w y v := by
  induction h with
  | v x h =>
    intro y hy
    match y, hy with
    | .v z, hy => simp only [T.un, T.v.injEq] at hy; subst hy; exact .v _ h
    | .sl true a [], hy => simp [T.un] at hy
    | .sl true a (b :: r), hy => simp [T.un] at hy
    | .sl false a es, hy => rw [un_sl] at hy; simp [T.un] at hy
  | nil sz =>
    intro y hy
    match y, hy with
    | .v z, hy => simp [T.un] at hy
    | .sl true a [], hy => exact .nil a
    | .sl true a (b :: r), hy => simp [T.un, T.un.unEs] at hy
    | .sl false a es, hy => rw [un_sl] at hy; simp [T.un] at hy
  | emp sz a c hc =>
    intro y hy
    obtain ⟨es', rfl, h2⟩ := un_inv (y := y) (sz := sz) (es := []) (by rw [hy]; rfl)
    have := (unEs_get h2).1
    have : es' = [] := List.eq_nil_of_length_eq_zero (by simpa using this)
    subst this; exact .emp sz a c hc
  | sl sz es b off c u hb hc hm hsz hcell hv ih =>
    intro y hy
    rw [un_sl] at hy
    obtain ⟨es', rfl, h2⟩ := un_inv hy
    obtain ⟨hl, hg⟩ := unEs_get h2
    rw [← hl] at hc ⊢
    refine .sl sz es' b off c u (fun ⟨i, e, j, x, hi, hj⟩ => by
      obtain ⟨e0, h3, h4⟩ := hg i e hi
      obtain ⟨x0, h5, _⟩ := (unEl_get h4).2 j x hj
      exact hb ⟨i, e0, j, x0, h3, h5⟩) hc hm (fun i e hi => ?_) (fun i e j x hi hj => ?_) fun i e j x hi hj => ?_
    · obtain ⟨e0, h3, h4⟩ := hg i e hi
      rw [(unEl_get h4).1]; exact hsz i e0 h3
    · obtain ⟨e0, h3, h4⟩ := hg i e hi
      obtain ⟨x0, h5, _⟩ := (unEl_get h4).2 j x hj
      exact hcell i e0 j x0 h3 h5
    · obtain ⟨e0, h3, h4⟩ := hg i e hi
      obtain ⟨x0, h5, h6⟩ := (unEl_get h4).2 j x hj
      exact ih i e0 j x0 h3 h5 x h6

/-! ### Closing -/
def allRO (RO : Nat → Prop) (β : K → Nat) (ro : Fr) (b : Nat) : Prop := RO b ∨ ∃ s o, look ro s = some o ∧ b = β (.cur s)

theorem get_out {out : List Fr} {ro : Fr} : ∀ {k : K} {o : Ob}, St.get ⟨out, []⟩ k = some o → St.get ⟨out, ro⟩ k = some o ∧ k.isFr = true
  | .cur s, o, h => by simp [St.get, look] at h
  | .fr i s, o, h => ⟨h, rfl⟩
  | .sub k i, o, h => by
    obtain ⟨eo, e, sz, rs, es, hg, hi, rfl⟩ := St.get_sub h
    obtain ⟨h1, h2⟩ := get_out (ro := ro) hg
    exact ⟨by simp only [St.get, h1, hi], h2⟩

theorem WR.close {w0 w : World} {β0 β : K → Nat} {RO0 RO : Nat → Prop} {out : List Fr} {ro : Fr} (h : WR (entP β0 RO0 w0) β RO ⟨out, ro⟩ w) : WR (entP β0 RO0 w0) β (allRO RO β ro) ⟨out, []⟩ w := by
  have hro : ∀ b, RO b → allRO RO β ro b := fun b hb => .inl hb
  have hcan : ∀ k o, St.get ⟨out, []⟩ k = some o → ¬ (entP β0 RO0 w0).can k := fun k o hk hc => by
    have := hc (get_out (ro := ro) hk).2
    cases this
  refine ⟨h.os, h.tape, h.output, h.size, h.keep, fun b hb => ?_, fun b hb => hro b (h.ro0 b hb), fun b hb => ?_, fun k o hk => (h.obj k o (get_out hk).1).ro hro, fun k o hk hc => (hcan k o hk hc).elim, fun k k' o o' hk hk' hc _ _ => (hcan k o hk hc).elim, fun k o hk hc => (hcan k o hk hc).elim, fun k o hk hc => hro _ (h.fzRO k o (get_out hk).1 hc), h.stay⟩
  · rcases hb with hb | ⟨s, o, hs, rfl⟩
    · exact h.roLt b hb
    · exact (h.obj (.cur s) o hs).lt
  · rcases hb with hb | ⟨s, o, hs, rfl⟩
    · exact h.roNew b hb
    · exact .inr ((h.objNew (.cur s) o hs (fun hc => by cases hc)).symm.imp id id)

/-- A value, its own row told as closed data. -/
inductive ClsV (ro : Fr) : LV → LV → Prop
  | same (x : T) : ClsV ro (.t x) (.t x)
  | row (s e sz off len : Nat) (es : List (List T)) (h : look ro s = some (.row e sz es)) (hl : off + len ≤ es.length) : ClsV ro (.osl (.cur s) sz off len) (.t (.sl false sz ((es.drop off).take len)))
  | nil (a b : Nat) : ClsV ro (.t (.sl true a [])) (.t (.sl true b []))
  | triple (a a' b b' c c' : LV) (h1 : ClsV ro a a') (h2 : ClsV ro b b') (h3 : ClsV ro c c') : ClsV ro (.tup [a, b, c]) (.tup [a', b', c'])
  | pair (a a' b b' : LV) (h1 : ClsV ro a a') (h2 : ClsV ro b b') : ClsV ro (.tup [a, b]) (.tup [a', b'])
  | agg (xs ys : List LV) (hl : xs.length = ys.length) (h : ∀ (i : Nat) (x y : LV), xs[i]? = some x → ys[i]? = some y → ClsV ro x y) : ClsV ro (.agg xs) (.agg ys)
  | un (x y : T) (h : y.un = x.un) : ClsV ro (.t x) (.t y)
  | trans (a b c : LV) (h1 : ClsV ro a b) (h2 : ClsV ro b c) : ClsV ro a c

theorem ClsV.vl' {w0 w : World} {β0 β : K → Nat} {RO0 RO : Nat → Prop} {out : List Fr} {ro : Fr} (h : WR (entP β0 RO0 w0) β RO ⟨out, ro⟩ w) {x y : LV} (hc : ClsV ro x y) : ∀ {v : Value}, VL β (allRO RO β ro) w x v → VL β (allRO RO β ro) w y v := by
  induction hc with
  | same x => intro v hv; exact hv
  | row s e sz off len es hs hl =>
    intro v hv
    have hk : St.get ⟨out, ro⟩ (.cur s) = some (.row e sz es) := hs
    exact .t _ _ (snap (fun _ h => h) (.inr ⟨s, _, hs, rfl⟩) ((h.obj (.cur s) _ hk).ro fun b hb => .inl hb) hv hl)
  | nil a b => intro v hv; exact nil_sz _ _ _ _ hv
  | triple a a' b b' c c' _ _ _ ih1 ih2 ih3 =>
    intro v hv
    cases hv with
    | tup _ vs hl hvs =>
    refine .tup _ vs (by simpa using hl) fun i x u hx hu => ?_
    match i with
    | 0 => simp at hx; subst hx; exact ih1 (hvs 0 a u rfl hu)
    | 1 => simp at hx; subst hx; exact ih2 (hvs 1 b u rfl hu)
    | 2 => simp at hx; subst hx; exact ih3 (hvs 2 c u rfl hu)
    | i + 3 => simp at hx
  | pair a a' b b' _ _ ih1 ih2 =>
    intro v hv
    cases hv with
    | tup _ vs hl hvs =>
    refine .tup _ vs (by simpa using hl) fun i x u hx hu => ?_
    match i with
    | 0 => simp at hx; subst hx; exact ih1 (hvs 0 a u rfl hu)
    | 1 => simp at hx; subst hx; exact ih2 (hvs 1 b u rfl hu)
    | i + 2 => simp at hx
  | agg xs ys hl h ih =>
    intro v hv
    cases hv with
    | agg _ vs hl' hvs h1 =>
    refine .agg _ vs (by omega) (fun i y u hy hu => ?_) h1
    have hi : i < xs.length := by rw [hl]; exact (List.getElem?_eq_some_iff.1 hy).1
    exact ih i _ y (List.getElem?_eq_getElem hi) hy (hvs i _ u (List.getElem?_eq_getElem hi) hu)
  | un x y h =>
    intro v hv
    cases hv with
    | t _ _ hv => exact .t _ _ (hv.un _ h)
  | trans _ _ _ _ _ ih1 ih2 => intro v hv; exact ih2 (ih1 hv)
theorem ClsV.vl {w0 w : World} {β0 β : K → Nat} {RO0 RO : Nat → Prop} {out : List Fr} {ro : Fr} (h : WR (entP β0 RO0 w0) β RO ⟨out, ro⟩ w) {x y : LV} (hc : ClsV ro x y) {v : Value} (hv : VL β RO w x v) : VL β (allRO RO β ro) w y v :=
  hc.vl' h (hv.ro fun _ hb => .inl hb)

theorem SpecP.close {P : Program} {f : Nat} {args : List LV} {out : List Fr} {Post Post' : LV → Fr → Prop} (h : SpecP P f args out Post) (hp : ∀ r ro, Post r ro → ∃ r', ClsV ro r r' ∧ Post' r' []) : SpecP P f args out Post' :=
  ⟨h.fn, fun β RO w vals hw hv => (h.calls β RO w vals hw hv).mono fun e w' ⟨v, r, ro, out', β', RO', he, h1, h2, h3⟩ => by
    obtain ⟨r', hc, hp'⟩ := hp r ro h1
    exact ⟨v, r', [], out', β', _, he, hp', h2.close, hc.vl h2 h3⟩⟩

/-- What was gathered, told as closed data. -/
theorem acc_cls {s e sz : Nat} {es : List (List T)} {ro : Fr} (h : ∀ x r, es = x :: r → look ro s = some (.row e sz es)) : ClsV ro (accV s sz es) (.t (.sl es.isEmpty sz es)) := by
  cases es with
  | nil => exact .nil 0 sz
  | cons x r =>
    have := ClsV.row (ro := ro) s e sz 0 (x :: r).length (x :: r) (h x r rfl) (by simp)
    rw [List.drop_zero, List.take_of_length_le (Nat.le_refl _)] at this
    exact this

end Go.Fw

/- Sets and numberings as maps. -/
namespace Go.Fw
open Go Go.Proofs

theorem St.get_fr {out : List Fr} {cur fr : Fr} {i s : Nat} {o : Ob} (h1 : out[i]? = some fr) (h2 : look fr s = some o) : St.get ⟨out, cur⟩ (.fr i s) = some (liftO (i + 1) o) := by
  simp only [St.get, h1, h2]

abbrev cellsTask (t : Task) : List LV := [.t (.sl t.fn 1 (t.facts.map tS)), .t (.sl t.ni 1 (t.init.map tI)), .t (.sl t.gn 2 (t.goal.map tLit)), .t (.sl t.an 4 (t.acts.map tAct))]
theorem take_all {α : Type} {l : List α} : l = (l.drop 0).take l.length := by rw [List.drop_zero, List.take_of_length_le (Nat.le_refl _)]

theorem lend {b : List Bool} {n : Nat} (h : b.length = n) : b.map tB = ((b.map tB).drop 0).take n := by
  rw [List.drop_zero, List.take_of_length_le (by simp [h])]
theorem lend2 {b : List Bool} {n : Nat} (h : b.length = n) : 0 + n ≤ (b.map tB).length := by simp [h]

theorem lend3 (l : List Int) : 0 + (l.map tI).length ≤ (l.map tI).length := by simp

theorem flat_bools {e sz : Nat} {b : List Bool} : (Ob.row e sz (b.map tB)).flat := by
  intro el hel x hx
  obtain ⟨y, _, rfl⟩ := List.mem_map.1 hel
  simp [tB] at hx; subst hx; trivial
theorem flat_ints {e sz : Nat} {b : List Int} : (Ob.row e sz (b.map tI)).flat := by
  intro el hel x hx
  obtain ⟨y, _, rfl⟩ := List.mem_map.1 hel
  simp [tI] at hx; subst hx; trivial
theorem flat_lits {e sz : Nat} {b : List Lit} : (Ob.row e sz (b.map tLit)).flat := by
  intro el hel x hx
  obtain ⟨y, _, rfl⟩ := List.mem_map.1 hel
  simp [tLit] at hx; rcases hx with rfl | rfl <;> trivial

theorem SpecP.conv {P : Program} {f : Nat} {args args' : List LV} {out : List Fr} {Post : LV → Fr → Prop} (hxy : ∀ (β : K → Nat) (RO : Nat → Prop) (w : World) (vals : List Value), Vals β RO w args vals → Vals β RO w args' vals) (h : SpecP P f args' out Post) : SpecP P f args out Post :=
  ⟨h.fn, fun β RO w vals hw hv => h.calls β RO w vals hw (hxy β RO w vals hv)⟩

/-! ### Sets of numbers -/
theorem hasB_mm {l : List Int} {x : Int} : hasB l x = true ↔ x ∈ l := by simp [hasB, List.any_eq_true]
def kvI (l : List Int) : List (Value × T) := l.map fun x => (.int .i64 x, .v (.bool true))
theorem look_kvI (x : Int) : ∀ l : List Int, lookKV (.int .i64 x) (.v (.bool false)) (kvI l) = .v (.bool (hasB l x))
  | [] => rfl
  | y :: r => by
    have ih := look_kvI x r
    simp only [kvI, List.map_cons, lookKV, hasB, List.any_cons] at ih ⊢
    by_cases h : x = y
    · rw [if_pos (show sameK (.int .i64 x) (.int .i64 y) = true by simp [sameK, h])]
      simp [h]
    · have h2 : (y == x) = false := by simpa using fun hh => h hh.symm
      rw [if_neg (show ¬ sameK (.int .i64 x) (.int .i64 y) = true by simpa [sameK] using h), ih, h2, Bool.false_or]
theorem kvI_len (l : List Int) : (kvI l).length = l.length := List.length_map ..

/-! ### Numberings -/
section
variable {α : Type} [DecidableEq α]
def posG : List α → α → Nat
  | [], _ => 0
  | y :: r, x => if y = x then 0 else posG r x + 1
theorem posG_lt {x : α} : ∀ {l : List α}, x ∈ l → posG l x < l.length
  | [], h => by cases h
  | y :: r, h => by
    simp only [posG]
    split
    · simp
    · rename_i hne
      have h : x ∈ r := (List.mem_cons.1 h).resolve_left (fun h => hne h.symm)
      have := posG_lt h; simp; omega
theorem posG_get {x : α} : ∀ {l : List α}, x ∈ l → l[posG l x]? = some x
  | [], h => by cases h
  | y :: r, h => by
    simp only [posG]
    split
    · rename_i he; simp [he]
    · rename_i hne
      have h : x ∈ r := (List.mem_cons.1 h).resolve_left (fun h => hne h.symm)
      simpa using posG_get h
theorem posG_of {x : α} : ∀ {l : List α} {i : Nat}, l.Nodup → l[i]? = some x → posG l x = i
  | [], i, _, h => by simp at h
  | y :: r, i, hn, h => by
    obtain ⟨h1, h2⟩ := List.nodup_cons.1 hn
    simp only [posG]
    cases i with
    | zero => simp at h; simp [h]
    | succ i =>
      simp at h
      have hx := List.mem_of_getElem? h
      rw [if_neg (by rintro rfl; exact h1 hx), posG_of h2 h]

/-- Each key with its place. -/
def kvG (f : α → Value) : Nat → List α → List (Value × T)
  | _, [] => []
  | k, x :: r => (f x, .v (.int .i64 (k : Nat))) :: kvG f (k + 1) r
theorem look_kvG {f : α → Value} {x : α} {z : Int} : ∀ {l : List α} {k : Nat}, (∀ y ∈ l, sameK (f x) (f y) = decide (x = y)) → lookKV (f x) (.v (.int .i64 z)) (kvG f k l) = .v (.int .i64 (if x ∈ l then ((k + posG l x : Nat) : Int) else z))
  | [], k, h => by simp [kvG, lookKV]
  | y :: r, k, h => by
    have ih := look_kvG (f := f) (x := x) (z := z) (l := r) (k := k + 1) fun y hy => h y (List.mem_cons_of_mem _ hy)
    simp only [kvG, lookKV, h y (List.mem_cons_self ..), posG]
    by_cases hxy : x = y
    · subst hxy; simp
    · rw [if_neg (by simpa using hxy), ih]
      have hyx : ¬ y = x := fun h => hxy h.symm
      simp only [List.mem_cons, hxy, false_or, hyx, if_false]
      congr 2
      split
      · congr 1; omega
      · rfl
theorem has_kvG {f : α → Value} {x : α} : ∀ {l : List α} {k : Nat}, (∀ y ∈ l, sameK (f x) (f y) = decide (x = y)) → hasKV (f x) (kvG f k l) = decide (x ∈ l)
  | [], k, h => by simp [kvG, hasKV]
  | y :: r, k, h => by
    have ih := has_kvG (f := f) (x := x) (l := r) (k := k + 1) fun y hy => h y (List.mem_cons_of_mem _ hy)
    simp only [kvG, hasKV, h y (List.mem_cons_self ..)]
    by_cases hxy : x = y
    · subst hxy; simp
    · rw [if_neg (by simpa using hxy), ih]
      simp [hxy]
theorem upd_kvG {f : α → Value} {x : α} : ∀ {l : List α} {k : Nat}, (∀ y ∈ l, sameK (f x) (f y) = decide (x = y)) → x ∉ l → updKV (f x) (.v (.int .i64 ((k + l.length : Nat) : Int))) (kvG f k l) = kvG f k (l ++ [x])
  | [], k, h, hx => by simp [kvG, updKV]
  | y :: r, k, h, hx => by
    have ih := upd_kvG (f := f) (x := x) (l := r) (k := k + 1) (fun y hy => h y (List.mem_cons_of_mem _ hy)) (fun hh => hx (List.mem_cons_of_mem _ hh))
    have hne : ¬ x = y := by rintro rfl; exact hx (List.mem_cons_self ..)
    simp only [List.cons_append, kvG, updKV, h y (List.mem_cons_self ..)]
    rw [if_neg (by simpa using hne), List.length_cons, show k + (r.length + 1) = k + 1 + r.length by omega, ih]
end

/-- The places of numbers. -/
abbrev kvP (p : List Int) : List (Value × T) := kvG (.int .i64) 0 p
def posI (p : List Int) (x : Int) : Int := if hasB p x = true then (posG p x : Int) else 0
theorem same_int (x y : Int) : sameK (.int .i64 x) (.int .i64 y) = decide (x = y) := by
  rw [Bool.eq_iff_iff]; simp [sameK]
theorem hasB_iff {l : List Int} {x : Int} : hasB l x = decide (x ∈ l) := by
  rw [Bool.eq_iff_iff, hasB_mm]; simp
theorem look_kvP (p : List Int) (x : Int) : lookKV (.int .i64 x) (.v (.int .i64 0)) (kvP p) = .v (.int .i64 (posI p x)) := by
  rw [look_kvG fun y _ => same_int x y, posI]
  simp only [hasB_mm, Nat.zero_add]
theorem has_kvP (p : List Int) (x : Int) : hasKV (.int .i64 x) (kvP p) = hasB p x := by rw [has_kvG fun y _ => same_int x y, hasB_iff]
theorem upd_kvP {p : List Int} {x : Int} (h : x ∉ p) : updKV (.int .i64 x) (.v (.int .i64 (p.length : Int))) (kvP p) = kvP (p ++ [x]) := by
  have := upd_kvG (f := .int .i64) (k := 0) (fun y _ => same_int x y) h
  rwa [Nat.zero_add] at this
theorem kvG_len {α : Type} (f : α → Value) : ∀ (k : Nat) (l : List α), (kvG f k l).length = l.length
  | _, [] => rfl
  | k, _ :: r => by simp [kvG, kvG_len f (k + 1) r]

end Go.Fw

/- Texts that lead to the law, part 8. -/
import Derived.Test.YtejchboadljglaaZG

/- What the program's functions do, part 9: the list of a set of literals. -/
namespace Go.Fw
open Go Go.Proofs
set_option maxRecDepth 10000

def kp36 : Kp := [(3, ([3, 6, 7, 8], [176]))]
theorem f36_spec (n1 : Bool) (b : List Bool) (hb : b.length ≤ 1000000000) (out : List Fr) :
    SpecP Try.prog 36 [.bools n1 b] out fun r ro => r = accV 176 2 (((listL b).map litI).map tLit) ∧ ro = accO 176 50 2 (((listL b).map litI).map tLit) := by
  refine spec_body cx_ok kp36 [] (fn := Try.f36) (by kernel_rfl) rfl (by kernel_rfl) rfl (by unfold FnOK; kernel_rfl) fun hok => ?_
  refine LoopW.mk (Nat × List Int) (fun p => p.1 ≤ b.length ∧ p.2 = listL (b.take p.1)) (fun p => [(3, accV 176 2 ((p.2.map litI).map tLit)), (6, .bools n1 b), (7, .int (b.map tB).length), (8, .int p.1)]) (fun p => ⟨out, accO 176 50 2 ((p.2.map litI).map tLit)⟩) (fun p => b.length - p.1) (0, []) ⟨Nat.zero_le _, rfl⟩ ⟨rfl, rfl⟩ ?_
  rintro ⟨i, acc⟩ ⟨hi0, hacc⟩
  simp only at hi0 hacc
  have e2 : ((i : Int).tdiv 2) = (i : Int) / 2 := Int.tdiv_eq_ediv_of_nonneg (by omega)
  cases acc with
  | nil =>
    refine And.intro (fun h1 => ?_) fun h1 => ?_
    · have hi : i < b.length := lt_of_dec h1
      have hs := listL_step hi
      refine And.intro (by omega) (Exists.intro _ (And.intro (get_map hi) ?_))
      refine And.intro (fun h2 => ?_) fun h2 => ?_
      · refine And.intro (by decide) (And.intro (by rw [e2]; omega) (And.intro (by rw [e2]; omega) (And.intro (by decide) ?_)))
        have fin : ∀ (h3 : Bool), ((i : Int).tmod 2 == 1) = h3 → tLit (litI i) = [.v (.int .i64 ((i : Int).tdiv 2)), .v (.bool h3)] := fun h3 h => by simp only [tLit, litI, h]
        refine And.intro (fun h3 => ?_) fun h3 => ?_
        · refine And.intro (Nat.le_of_ble_eq_true rfl) (And.intro (Nat.le_of_ble_eq_true rfl) (And.intro (Nat.le_of_ble_eq_true rfl) ?_))
          refine And.intro (by omega) (And.intro (by omega) ?_)
          refine Exists.intro (i + 1, [(i : Int)]) (And.intro (by show b.length - (i + 1) < b.length - i; omega) (And.intro ⟨hi, by show [(i : Int)] = _; rw [hs, ← hacc, h2]; rfl⟩ (And.intro rfl ?_)))
          show _ = (⟨out, [(176, .row 50 2 [tLit (litI i)])]⟩ : St)
          rw [fin _ h3]; rfl
        · refine And.intro (Nat.le_of_ble_eq_true rfl) (And.intro (Nat.le_of_ble_eq_true rfl) (And.intro (Nat.le_of_ble_eq_true rfl) ?_))
          refine And.intro (by omega) (And.intro (by omega) ?_)
          refine Exists.intro (i + 1, [(i : Int)]) (And.intro (by show b.length - (i + 1) < b.length - i; omega) (And.intro ⟨hi, by show [(i : Int)] = _; rw [hs, ← hacc, h2]; rfl⟩ (And.intro rfl ?_)))
          show _ = (⟨out, [(176, .row 50 2 [tLit (litI i)])]⟩ : St)
          rw [fin _ h3]; rfl
      · refine And.intro (by omega) (And.intro (by omega) ?_)
        exact Exists.intro (i + 1, []) (And.intro (by show b.length - (i + 1) < b.length - i; omega) (And.intro ⟨hi, by show [] = _; rw [hs, ← hacc, h2]; rfl⟩ (And.intro rfl rfl)))
    · have hi : i = b.length := by have := ge_of_dec h1; omega
      rw [hi, List.take_length] at hacc
      refine Exists.intro [176] (And.intro ?_ ?_)
      · show LV.t (.sl true 0 []) = _
        rw [← hacc]; rfl
      · rw [← hacc]; rfl
  | cons x r =>
    refine And.intro (fun h1 => ?_) fun h1 => ?_
    · have hi : i < b.length := lt_of_dec h1
      have hs := listL_step hi
      have hln : (x :: r).length ≤ i := by rw [hacc]; exact listL_len b i
      refine And.intro (by omega) (Exists.intro _ (And.intro (get_map hi) ?_))
      refine And.intro (fun h2 => ?_) fun h2 => ?_
      · refine And.intro (by decide) (And.intro (by rw [e2]; omega) (And.intro (by rw [e2]; omega) (And.intro (by decide) ?_)))
        have fin : ∀ (h3 : Bool), ((i : Int).tmod 2 == 1) = h3 → tLit (litI i) = [.v (.int .i64 ((i : Int).tdiv 2)), .v (.bool h3)] := fun h3 h => by simp only [tLit, litI, h]
        have e : ((r ++ [(i : Int)]).map litI).map tLit = (r.map litI).map tLit ++ [tLit (litI i)] := by simp
        have hln2 : ∀ z : List T, ((tLit (litI x) :: (r.map litI).map tLit) ++ [z]).length ≤ i + 1 := by intro z; simp at hln ⊢; omega
        refine And.intro (fun h3 => ?_) fun h3 => ?_
        · refine And.intro (Nat.le_of_ble_eq_true rfl) (And.intro rfl (And.intro (Nat.le_trans (Nat.mul_le_mul_right _ (hln2 _)) (by show (i + 1) * 16 ≤ _; omega)) (And.intro (Nat.le_trans (hln2 _) (by omega)) ?_)))
          refine And.intro (by omega) (And.intro (by omega) ?_)
          refine Exists.intro (i + 1, x :: (r ++ [(i : Int)])) (And.intro (by show b.length - (i + 1) < b.length - i; omega) (And.intro ⟨hi, by show x :: (r ++ [(i : Int)]) = _; rw [hs, ← hacc, h2]; rfl⟩ ?_))
          simp only [List.map_cons, e, fin _ h3]
          exact And.intro rfl rfl
        · refine And.intro (Nat.le_of_ble_eq_true rfl) (And.intro rfl (And.intro (Nat.le_trans (Nat.mul_le_mul_right _ (hln2 _)) (by show (i + 1) * 16 ≤ _; omega)) (And.intro (Nat.le_trans (hln2 _) (by omega)) ?_)))
          refine And.intro (by omega) (And.intro (by omega) ?_)
          refine Exists.intro (i + 1, x :: (r ++ [(i : Int)])) (And.intro (by show b.length - (i + 1) < b.length - i; omega) (And.intro ⟨hi, by show x :: (r ++ [(i : Int)]) = _; rw [hs, ← hacc, h2]; rfl⟩ ?_))
          simp only [List.map_cons, e, fin _ h3]
          exact And.intro rfl rfl
      · refine And.intro (by omega) (And.intro (by omega) ?_)
        exact Exists.intro (i + 1, x :: r) (And.intro (by show b.length - (i + 1) < b.length - i; omega) (And.intro ⟨hi, by show x :: r = _; rw [hs, ← hacc, h2]; simp⟩ (And.intro rfl rfl)))
    · have hi : i = b.length := by have := ge_of_dec h1; omega
      rw [hi, List.take_length] at hacc
      refine Exists.intro [176] (And.intro ?_ ?_)
      · show LV.osl (.cur 176) 2 0 (((x :: r).map litI).map tLit).length = _
        rw [← hacc]; rfl
      · rw [← hacc]; rfl

end Go.Fw

/- What the program's functions do, part 10: rising lists and conditions of package task. -/
namespace Go.Fw
open Go Go.Proofs
set_option maxRecDepth 10000

def kp71 : Kp := [(2, ([0, 1, 7, 8, 9], []))]
theorem f71_spec (n1 : Bool) (l : List Int) (n : Int) (out : List Fr) : SpecP Try.prog 71 [.int n, .ints n1 l] out fun r ro => r = .bool (risingB l n) ∧ ro = [] := by
  refine spec_body cx_ok kp71 [] (fn := Try.f71) (by kernel_rfl) rfl (by kernel_rfl) rfl (by unfold FnOK; kernel_rfl) fun hok => ?_
  have hmx := le_max hok.2.1.1
  refine LoopW.mk Nat (fun i => i ≤ l.length ∧ (List.range i).all (chkI l n) = true) (fun i => [(0, .int n), (1, .ints n1 l), (7, .ints n1 l), (8, .int (l.map tI).length), (9, .int i)]) (fun _ => ⟨out, []⟩) (fun i => l.length - i) 0 ⟨Nat.zero_le _, rfl⟩ ⟨rfl, rfl⟩ fun i hI => ?_
  refine And.intro (fun h1 => ?_) fun h1 => ?_
  · have hi := lt_of_dec h1
    have ha := at0_eq hi
    refine And.intro (by omega) (Exists.intro _ (And.intro (get_map hi) ?_))
    refine And.intro (fun h2 => ?_) fun h2 => ?_
    · exact Exists.intro [] (ret_bool (range_false hi (by simp [chkI, ha]; simp at h2; omega)) rfl)
    · refine And.intro (fun h3 => ?_) fun h3 => ?_
      · exact Exists.intro [] (ret_bool (range_false hi (by simp [chkI, ha]; simp at h2 h3; omega)) rfl)
      · refine And.intro (fun h4 => ?_) fun h4 => ?_
        · have h0 : 0 < i := by simp at h4; omega
          have hp := at0_eq (l := l) (i := i - 1) (by omega)
          refine And.intro (by omega) (And.intro (by omega) (And.intro (by omega) (Exists.intro _ (And.intro (get_pred hi h0) ?_))))
          refine And.intro (fun h5 => ?_) fun h5 => ?_
          · exact Exists.intro [] (ret_bool (range_false hi (by simp [chkI, ha, hp]; simp at h2 h3 h5; omega)) rfl)
          · refine And.intro (by omega) (And.intro (by omega) ?_)
            exact Exists.intro (i + 1) (And.intro (by show l.length - (i + 1) < l.length - i; omega) (And.intro ⟨hi, range_step hI.2 (by simp [chkI, ha, hp]; simp at h2 h3 h5; omega)⟩ (And.intro rfl rfl)))
        · have h0 : i = 0 := by simp at h4; omega
          refine And.intro (by omega) (And.intro (by omega) ?_)
          exact Exists.intro (i + 1) (And.intro (by show l.length - (i + 1) < l.length - i; omega) (And.intro ⟨hi, range_step hI.2 (by simp [chkI, ha]; simp at h2 h3; omega)⟩ (And.intro rfl rfl)))
  · have hi : i = l.length := by have := hI.1; have := ge_of_dec h1; omega
    exact Exists.intro [] (ret_bool (by have := hI.2; rw [hi] at this; exact this) rfl)

def od85 : Od := [(4, [(0, .pure), (1, .pure), (2, .pure), (3, .pure), (4, .pure), (5, .pure), (6, .pure), (7, .pure), (8, .pure), (9, .pure), (10, .pure), (11, .pure), (12, .pure), (13, .pure), (14, .pure), (15, .pure), (16, .pure), (17, .pure), (18, .pure), (19, .pure), (20, .pure), (21, .pure), (22, .pure), (23, .pure)])]
def kp85 : Kp := [(2, ([0, 1, 7, 8, 9], []))]
theorem f85_spec (n1 : Bool) (l : List Lit) (n : Int) (out : List Fr) : SpecP Try.prog 85 [.int n, .lits n1 l] out fun r ro => r = .bool (condB l n) ∧ ro = [] := by
  refine spec_body cx_ok kp85 od85 (fn := Try.f85) (by kernel_rfl) rfl (by kernel_rfl) rfl (by unfold FnOK; kernel_rfl) fun hok => ?_
  have hmx := le_max hok.2.1.1
  have hlen : (l.map (·.fact)).length = l.length := List.length_map ..
  refine LoopW.mk Nat (fun i => i ≤ l.length ∧ (List.range i).all (chkI (l.map (·.fact)) n) = true) (fun i => [(0, .int n), (1, .lits n1 l), (7, .lits n1 l), (8, .int (l.map tLit).length), (9, .int i)]) (fun _ => ⟨out, []⟩) (fun i => l.length - i) 0 ⟨Nat.zero_le _, rfl⟩ ⟨rfl, rfl⟩ fun i hI => ?_
  refine And.intro (fun h1 => ?_) fun h1 => ?_
  · have hi := lt_of_dec h1
    have hi' : i < (l.map (·.fact)).length := by rw [hlen]; exact hi
    have ha := atF_eq hi
    refine And.intro (by omega) (Exists.intro _ (And.intro (get_map hi) ?_))
    refine And.intro (fun h2 => ?_) fun h2 => ?_
    · exact Exists.intro [] (ret_bool (range_false hi' (by simp [chkI, ha]; simp at h2; omega)) rfl)
    · refine And.intro (fun h3 => ?_) fun h3 => ?_
      · exact Exists.intro [] (ret_bool (range_false hi' (by simp [chkI, ha]; simp at h2 h3; omega)) rfl)
      · refine And.intro (fun h4 => ?_) fun h4 => ?_
        · have h0 : 0 < i := by simp at h4; omega
          have hp := atF_eq (l := l) (i := i - 1) (by omega)
          refine And.intro (by omega) (And.intro (by omega) (And.intro (by omega) (Exists.intro _ (And.intro (get_pred hi h0) ?_))))
          refine And.intro (fun h5 => ?_) fun h5 => ?_
          · exact Exists.intro [] (ret_bool (range_false hi' (by simp [chkI, ha, hp]; simp at h2 h3 h5; omega)) rfl)
          · refine And.intro (by omega) (And.intro (by omega) ?_)
            exact Exists.intro (i + 1) (And.intro (by show l.length - (i + 1) < l.length - i; omega) (And.intro ⟨hi, range_step hI.2 (by simp [chkI, ha, hp]; simp at h2 h3 h5; omega)⟩ (And.intro rfl rfl)))
        · have h0 : i = 0 := by simp at h4; omega
          refine And.intro (by omega) (And.intro (by omega) ?_)
          exact Exists.intro (i + 1) (And.intro (by show l.length - (i + 1) < l.length - i; omega) (And.intro ⟨hi, range_step hI.2 (by simp [chkI, ha]; simp at h2 h3; omega)⟩ (And.intro rfl rfl)))
  · have hi : i = l.length := by have := hI.1; have := ge_of_dec h1; omega
    exact Exists.intro [] (ret_bool (by have := hI.2; rw [hi, ← hlen] at this; exact this) rfl)

theorem f106_spec (c : Int) (out : List Fr) : SpecP Try.prog 106 [.byte c] out fun r ro => r = .bool (letterB c) ∧ ro = [] := by
  refine spec_body cx_ok [] [] (fn := Try.f106) (by kernel_rfl) rfl (by kernel_rfl) rfl (by unfold FnOK; kernel_rfl) fun hok => ?_
  refine And.intro (fun h1 => ?_) fun h1 => ?_
  · refine And.intro (fun h2 => ?_) fun h2 => ?_
    · exact Exists.intro [] (ret_bool (by simp [letterB]; simp at h1 h2; omega) rfl)
    · refine And.intro (fun h3 => ?_) fun h3 => ?_
      · refine And.intro (fun h4 => ?_) fun h4 => ?_
        · exact Exists.intro [] (ret_bool (by simp [letterB]; simp at h1 h2 h3 h4; omega) rfl)
        · exact Exists.intro [] (ret_bool (by simp [letterB]; simp at h1 h2 h3 h4; omega) rfl)
      · exact Exists.intro [] (ret_bool (by simp [letterB]; simp at h1 h2 h3; omega) rfl)
  · refine And.intro (fun h3 => ?_) fun h3 => ?_
    · refine And.intro (fun h4 => ?_) fun h4 => ?_
      · exact Exists.intro [] (ret_bool (by simp [letterB]; simp at h1 h3 h4; omega) rfl)
      · exact Exists.intro [] (ret_bool (by simp [letterB]; simp at h1 h3 h4; omega) rfl)
    · exact Exists.intro [] (ret_bool (by simp [letterB]; simp at h1 h3; omega) rfl)


end Go.Fw

/- What the program's functions do, part 11: the first place of a byte; package task's names. -/
namespace Go.Fw
open Go Go.Proofs
set_option maxRecDepth 10000

def idxB (s : ByteArray) (c : Int) : Int := Lib.indexByte s.data.toList c.toNat.toUInt8
theorem f123_spec (s : ByteArray) (c : Int) (out : List Fr) : SpecP Try.prog 123 [.str s, .byte c] out fun r ro => r = .int (idxB s c) ∧ ro = [] := by
  refine spec_body cx_ok [] [] (fn := Try.f123) (by kernel_rfl) rfl (by kernel_rfl) rfl (by unfold FnOK; kernel_rfl) fun hok => ?_
  rintro _ rfl
  exact Exists.intro [] (And.intro rfl rfl)
theorem f107_spec (s : ByteArray) (c : Int) (out : List Fr) : SpecP Try.prog 107 [.str s, .byte c] out fun r ro => r = .int (idxB s c) ∧ ro = [] := by
  refine spec_body cx_ok [] [] (fn := Try.f107) (by kernel_rfl) rfl (by kernel_rfl) rfl (by unfold FnOK; kernel_rfl) fun hok => ?_
  refine SpecP.mono (f123_spec s c []) ?_
  rintro _ _ ⟨rfl, rfl⟩
  exact Exists.intro [] (And.intro rfl rfl)

theorem idx_neg (l : List UInt8) (c : UInt8) : Lib.indexByte l c < 0 ↔ ∀ b ∈ l, b ≠ c := by
  induction l with
  | nil => simp [Lib.indexByte]
  | cons b l ih =>
    have hge := Lib.indexByte_ge l c
    rw [Lib.indexByte]
    by_cases hb : b = c
    · simp [hb]
    · have : (b == c) = false := by simpa using hb
      simp only [this, Bool.false_eq_true, if_false]
      simp only [List.mem_cons, forall_eq_or_imp, ne_eq, hb, not_false_eq_true, true_and]
      rw [← show (∀ a ∈ l, a ≠ c) ↔ _ from Iff.rfl, ← ih]
      split
      · rename_i h; simp at h; omega
      · rename_i h; simp at h; omega
theorem idx_within {c : Int} (hc : ∃ b : UInt8, c = (b.toNat : Int)) : decide (idxB punct c < 0) = !withinB punct c := by
  obtain ⟨b, rfl⟩ := hc
  have h : idxB punct (b.toNat : Int) < 0 ↔ ∀ x ∈ punct.data.toList, x ≠ b := by
    unfold idxB
    rw [idx_neg]
    have : ((b.toNat : Int)).toNat.toUInt8 = b := by simp
    rw [this]
  have hw : withinB punct (b.toNat : Int) = punct.data.toList.any (· == b) := by
    have e : ∀ i, (byAt punct i == (b.toNat : Int)) = (punct.data[i]?.getD 0 == b) := by
      intro i
      rw [byAt]
      by_cases h : punct.data[i]?.getD 0 = b
      · rw [h]; simp
      · have : (punct.data[i]?.getD 0).toNat ≠ b.toNat := fun hh => h (UInt8.toNat_inj.1 hh)
        have h2 : (((punct.data[i]?.getD 0).toNat : Int) == (b.toNat : Int)) = false := by simp; omega
        have h3 : (punct.data[i]?.getD 0 == b) = false := by simpa using h
        rw [h2, h3]
    unfold withinB
    simp only [e]
    rfl
  rw [hw]
  cases hh : punct.data.toList.any (· == b) with
  | true =>
    obtain ⟨x, hx, hxb⟩ := List.any_eq_true.1 hh
    simp only [Bool.not_true, decide_eq_false_iff_not]
    rw [h]
    intro hf
    exact hf x hx (by simpa using hxb)
  | false =>
    simp only [Bool.not_false, decide_eq_true_eq]
    rw [h]
    intro x hx hxb
    have := List.any_eq_false.1 hh x hx
    simp [hxb] at this

theorem byAt_u8 (s : ByteArray) (i : Nat) : ∃ b : UInt8, byAt s i = (b.toNat : Int) := ⟨_, rfl⟩
def kp98 : Kp := [(4, ([0, 19, 20], []))]
theorem eq_empty {s : ByteArray} {b : Bool} (h : (s.toList == (⟨#[]⟩ : ByteArray).toList) = b) : b = decide (s.size = 0) := by
  rw [Lib.toList_data, Lib.toList_data] at h
  have hsz : s.size = s.data.toList.length := by rw [Array.length_toList]; rfl
  rw [← h, hsz]
  generalize s.data.toList = l
  cases l with
  | nil => rfl
  | cons _ _ => rfl
theorem f98_spec (s : ByteArray) (out : List Fr) : SpecP Try.prog 98 [.str s] out fun r ro => r = .bool (nameB s) ∧ ro = [] := by
  refine spec_body cx_ok kp98 [] (fn := Try.f98) (by kernel_rfl) rfl (by kernel_rfl) rfl (by unfold FnOK; kernel_rfl) fun hok => ?_
  refine And.intro (fun h1 => ?_) fun h1 => ?_
  · exact Exists.intro [] (ret_bool (by have h0 : s.size = 0 := of_decide_eq_true (eq_empty h1).symm; rw [nameB, h0]; rfl) rfl)
  refine And.intro (fun h2 => ?_) fun h2 => ?_
  · exact Exists.intro [] (ret_bool (by simp [nameB]; simp at h2; omega) rfl)
  have hs : 1 ≤ s.size ∧ s.size ≤ 40 := by have h0 : ¬ s.size = 0 := of_decide_eq_false (eq_empty h1).symm; simp at h2; omega
  refine And.intro (by decide) (Exists.intro _ (And.intro (byAt_get (i := 0) hs.1) ?_))
  refine SpecP.mono (f106_spec (byAt s 0) []) ?_
  rintro r ro ⟨rfl, rfl⟩
  refine And.intro (fun h3 => ?_) fun h3 => ?_
  · refine LoopW.mk Nat (fun i => i ≤ s.size ∧ (List.range i).all (fun i => okB (byAt s i)) = true) (fun i => [(0, .str s), (19, .int s.size), (20, .int i)]) (fun _ => ⟨out, []⟩) (fun i => s.size - i) 0 ⟨Nat.zero_le _, rfl⟩ ⟨rfl, rfl⟩ fun i hI => ?_
    refine And.intro (fun h4 => ?_) fun h4 => ?_
    · have hi : i < s.size := by simpa using h4
      refine And.intro (by omega) (Exists.intro _ (And.intro (byAt_get hi) ?_))
      refine SpecP.mono (f106_spec (byAt s i) []) ?_
      rintro r ro ⟨rfl, rfl⟩
      have next : okB (byAt s i) = true → ∀ {p : Prop}, ((s.size - (i + 1) < s.size - i) → (i + 1 ≤ s.size ∧ (List.range (i + 1)).all (fun i => okB (byAt s i)) = true) → p) → p := fun h _ hp => hp (by omega) ⟨hi, range_step hI.2 h⟩
      refine And.intro (fun h5 => ?_) fun h5 => ?_
      · refine And.intro (by omega) (And.intro (by omega) ?_)
        exact Exists.intro (i + 1) (And.intro (by show s.size - (i + 1) < s.size - i; omega) (And.intro ⟨hi, range_step hI.2 (by simp [okB, h5])⟩ (And.intro rfl rfl)))
      · have hd : ∀ b, okB (byAt s i) = b → decide (48 ≤ byAt s i) = true ∧ decide (byAt s i ≤ 57) = true → b = true := fun b hb ⟨g1, g2⟩ => by rw [← hb]; simp only [okB, digitB, g1, g2]; simp
        refine And.intro (fun h6 => ?_) fun h6 => ?_
        · refine SpecP.mono (f107_spec punct (byAt s i) []) ?_
          rintro r ro ⟨rfl, rfl⟩
          have hx := idx_within (byAt_u8 s i)
          have hdig : digitB (byAt s i) = false := by have g6 : byAt s i < 48 := of_decide_eq_true h6; simp only [digitB, Bool.and_eq_false_iff, decide_eq_false_iff_not]; omega
          refine And.intro (fun h7 => ?_) fun h7 => ?_
          · rw [h7] at hx
            exact Exists.intro [] (ret_bool (by rw [nameB, range_false hi (by simp at hx; simp [okB, h5, hdig, hx])]; simp) rfl)
          · rw [h7] at hx
            refine And.intro (by omega) (And.intro (by omega) ?_)
            exact Exists.intro (i + 1) (And.intro (by show s.size - (i + 1) < s.size - i; omega) (And.intro ⟨hi, range_step hI.2 (by simp at hx; simp [okB, hx])⟩ (And.intro rfl rfl)))
        · refine And.intro (fun h8 => ?_) fun h8 => ?_
          · refine SpecP.mono (f107_spec punct (byAt s i) []) ?_
            rintro r ro ⟨rfl, rfl⟩
            have hx := idx_within (byAt_u8 s i)
            have hdig : digitB (byAt s i) = false := by have g8 : byAt s i > 57 := of_decide_eq_true h8; simp only [digitB, Bool.and_eq_false_iff, decide_eq_false_iff_not]; omega
            refine And.intro (fun h7 => ?_) fun h7 => ?_
            · rw [h7] at hx
              exact Exists.intro [] (ret_bool (by rw [nameB, range_false hi (by simp at hx; simp [okB, h5, hdig, hx])]; simp) rfl)
            · rw [h7] at hx
              refine And.intro (by omega) (And.intro (by omega) ?_)
              exact Exists.intro (i + 1) (And.intro (by show s.size - (i + 1) < s.size - i; omega) (And.intro ⟨hi, range_step hI.2 (by simp at hx; simp [okB, hx])⟩ (And.intro rfl rfl)))
          · have hdig : digitB (byAt s i) = true := by have g6 : ¬ byAt s i < 48 := of_decide_eq_false h6; have g8 : ¬ byAt s i > 57 := of_decide_eq_false h8; simp only [digitB, Bool.and_eq_true, decide_eq_true_eq]; omega
            refine And.intro (by omega) (And.intro (by omega) ?_)
            exact Exists.intro (i + 1) (And.intro (by show s.size - (i + 1) < s.size - i; omega) (And.intro ⟨hi, range_step hI.2 (by simp [okB, hdig])⟩ (And.intro rfl rfl)))
    · have hi : i = s.size := by have := hI.1; simp at h4; omega
      have h5 := hI.2
      rw [hi] at h5
      exact Exists.intro [] (ret_bool (by rw [nameB, h5, h3]; simp; omega) rfl)
  · exact Exists.intro [] (ret_bool (by simp [nameB, h3]) rfl)

end Go.Fw

/- What the program's functions do, part 12: Few: it comes back; its sums may wrap. -/
namespace Go.Fw
open Go Go.Proofs
set_option maxRecDepth 10000

theorem wrap64 {n : Int} (h : -9223372036854775808 ≤ n) (h2 : n ≤ 9223372036854775807) : IntKind.i64.wrap n = n := wrap_in h h2
theorem ret_any {b : Bool} {ro : Fr} (h2 : ro = []) : ∃ c : Bool, LV.t (.v (.bool b)) = .bool c ∧ ro = [] := ⟨b, rfl, h2⟩

def kp13 : Kp := [(5, ([1, 2, 5, 31, 32, 33], [16])), (11, ([1, 5, 43, 44, 45], [])), (17, ([1, 5, 43, 44, 45, 69, 70, 71], []))]
theorem f13_spec (t : Task) (most : Int) (out : List Fr) : SpecP Try.prog 13 [.task t, .int most] out fun r ro => ∃ b : Bool, r = .bool b ∧ ro = [] := by
  refine spec_body cxw_ok kp13 [] (fn := Try.f13) (by kernel_rfl) rfl (by kernel_rfl) rfl (by unfold FnOK; kernel_rfl) fun hok => ?_
  have hfm := le_max hok.1.1.1
  have ham := le_max hok.1.2.2.2.1.1
  have hae : ∀ a ∈ t.acts, (a.effs.length : Int) ≤ 9223372036854775807 := fun a ha => by
    have h1 := hok.1.2.2.2.1.2
    have h2 := okEs_iff.1 h1 (tAct a) (List.mem_map_of_mem ha) (.sl a.en 3 (a.effs.map tEff)) (by simp [tAct])
    exact le_max h2.1
  intro m1 _ m2 _ m3 _
  refine And.intro (fun h1 => ?_) fun h1 => ?_
  · exact Exists.intro [] (ret_any rfl)
  refine LoopW.mk Nat (fun i => i ≤ t.facts.length) (fun i => [(1, .int most), (2, .ptr (.cur 16) 0), (5, .int m3), (31, .t (.sl t.fn 1 (t.facts.map tS))), (32, .int (t.facts.map tS).length), (33, .int i)])
    (fun _ => ⟨out, [(16, .box [.t (.sl t.fn 1 (t.facts.map tS)), .t (.sl t.ni 1 (t.init.map tI)), .t (.sl t.gn 2 (t.goal.map tLit)), .t (.sl t.an 4 (t.acts.map tAct))])]⟩) (fun i => t.facts.length - i) 0 (Nat.zero_le _) ⟨rfl, rfl⟩ fun i hI => ?_
  refine And.intro (fun h2 => ?_) fun h2 => ?_
  · have hi := lt_of_dec h2
    refine And.intro (by omega) (Exists.intro _ (And.intro (get_map hi) ?_))
    refine And.intro (fun h3 => ?_) fun h3 => ?_
    · exact Exists.intro [] (ret_any rfl)
    · intro m hm
      rw [wrap64 (by omega) (by omega)] at hm
      subst hm
      exact Exists.intro (i + 1) (And.intro (by show t.facts.length - (i + 1) < t.facts.length - i; omega) (And.intro hi (And.intro rfl rfl)))
  refine LoopW.mk (Nat × Int) (fun p => p.1 ≤ t.acts.length) (fun p => [(1, .int most), (5, .int p.2), (43, .t (.sl t.an 4 (t.acts.map tAct))), (44, .int (t.acts.map tAct).length), (45, .int p.1)])
    (fun _ => ⟨out, []⟩) (fun p => t.acts.length - p.1) (0, m3) (Nat.zero_le _) ⟨rfl, rfl⟩ ?_
  rintro ⟨j, n⟩ hJ
  simp only at hJ
  refine And.intro (fun h4 => ?_) fun h4 => ?_
  · have hj : j < t.acts.length := lt_of_dec h4
    refine And.intro (by omega) (Exists.intro _ (And.intro (get_map hj) ?_))
    intro n1 _ n2 _
    have hel := hae _ (List.getElem_mem hj)
    have loop : ∀ {p : Prop}, p → p := fun h => h
    refine And.intro (fun h5 => ?_) fun h5 => ?_
    · exact Exists.intro [] (ret_any rfl)
    refine And.intro (fun h6 => ?_) fun h6 => ?_
    · exact Exists.intro [] (ret_any rfl)
    refine LoopW.mk (Nat × Int) (fun p => p.1 ≤ t.acts[j].effs.length) (fun p => [(1, .int most), (5, .int p.2), (43, .t (.sl t.an 4 (t.acts.map tAct))), (44, .int (t.acts.map tAct).length), (45, .int j), (69, .t (.sl t.acts[j].en 3 (t.acts[j].effs.map tEff))), (70, .int (t.acts[j].effs.map tEff).length), (71, .int p.1)])
      (fun _ => ⟨out, []⟩) (fun p => t.acts[j].effs.length - p.1) (0, n2) (Nat.zero_le _) ⟨rfl, rfl⟩ ?_
    rintro ⟨k, q⟩ hK
    simp only at hK
    refine And.intro (fun h7 => ?_) fun h7 => ?_
    · have hk : k < t.acts[j].effs.length := lt_of_dec h7
      refine And.intro (by omega) (Exists.intro _ (And.intro (get_map hk) ?_))
      intro q1 _ m hm
      rw [wrap64 (by omega) (by omega)] at hm
      subst hm
      exact Exists.intro (k + 1, q1) (And.intro (by show t.acts[j].effs.length - (k + 1) < t.acts[j].effs.length - k; omega) (And.intro hk (And.intro rfl rfl)))
    · intro m hm
      rw [wrap64 (by omega) (by omega)] at hm
      subst hm
      exact Exists.intro (j + 1, q) (And.intro (by show t.acts.length - (j + 1) < t.acts.length - j; omega) (And.intro hj (And.intro rfl rfl)))
  · refine And.intro (fun h8 => ?_) fun h8 => ?_
    · exact Exists.intro [] (ret_any rfl)
    · exact Exists.intro [] (ret_any rfl)
end Go.Fw

/- What the program's functions do, part 13: Valid. -/
namespace Go.Fw
open Go Go.Proofs
set_option maxRecDepth 10000

def kp80 : Kp := [(6, ([1, 3, 4, 38, 39, 40], [8, 288])), (14, ([3, 4, 57, 58, 59], [440])), (20, ([3, 4, 57, 58, 59, 100, 101, 102], [440]))]
theorem f80_spec (t : Task) (out : List Fr) : SpecP Try.prog 80 [.task t] out fun r ro => r = .bool (isB t) ∧ ro = [] := by
  refine spec_body cx_ok kp80 [] (fn := Try.f80) (by kernel_rfl) rfl (by kernel_rfl) rfl (by unfold FnOK; kernel_rfl) fun hok => ?_
  have hfm := le_max hok.1.1.1
  have ham := le_max hok.1.2.2.2.1.1
  refine And.intro (fun h1 => ?_) fun h1 => ?_
  · exact Exists.intro [] (ret_bool (by simp at h1; simp [isB]; omega) rfl)
  refine And.intro (fun h2 => ?_) fun h2 => ?_
  · exact Exists.intro [] (ret_bool (by simp at h2; simp [isB]; omega) rfl)
  refine SpecP.mono (f71_spec t.ni t.init (t.facts.map tS).length []) ?_
  rintro _ _ ⟨rfl, rfl⟩
  rw [List.length_map]
  refine And.intro (fun h3 => ?_) fun h3 => ?_
  rotate_left
  · exact Exists.intro [] (ret_bool (by simp [isB, h3]) rfl)
  refine SpecP.mono (f85_spec t.gn t.goal t.facts.length []) ?_
  rintro _ _ ⟨rfl, rfl⟩
  refine And.intro (fun h4 => ?_) fun h4 => ?_
  rotate_left
  · exact Exists.intro [] (ret_bool (by simp [isB, h4]) rfl)
  have hl1 : t.facts.length ≤ 200 := by simp at h1; omega
  have hl2 : t.acts.length ≤ 1000 := by simp at h2; omega
  refine LoopW.mk Nat (fun i => i ≤ t.facts.length ∧ (List.range i).all (chkS t.facts) = true)
    (fun i => [(1, .ptr (.cur 8) 0), (3, .int t.facts.length), (4, .mpr (.cur 288)), (38, .t (.sl t.fn 1 (t.facts.map tS))), (39, .int (t.facts.map tS).length), (40, .int i)])
    (fun i => ⟨out, [(8, .box [.t (.sl t.fn 1 (t.facts.map tS)), .t (.sl t.ni 1 (t.init.map tI)), .t (.sl t.gn 2 (t.goal.map tLit)), .t (.sl t.an 4 (t.acts.map tAct))]), (288, .mp .str (kvS (t.facts.take i)))]⟩) (fun i => t.facts.length - i) 0 ⟨Nat.zero_le _, rfl⟩ ⟨rfl, rfl⟩ fun i hI => ?_
  refine And.intro (fun h5 => ?_) fun h5 => ?_
  · have hi := lt_of_dec h5
    have ha : atS t.facts i = t.facts[i] := by simp [atS, hi]
    have hno : chkS t.facts i = false → isB t = false := fun h => by
      have : namesB t.facts = false := range_false hi h
      simp [isB, this]
    refine And.intro (by omega) (Exists.intro _ (And.intro (get_map hi) ?_))
    refine SpecP.mono (f98_spec t.facts[i] []) ?_
    rintro _ _ ⟨rfl, rfl⟩
    refine And.intro (fun h6 => ?_) fun h6 => ?_
    · refine Exists.intro _ (And.intro (look_kvS _ _) ?_)
      refine And.intro (fun h7 => ?_) fun h7 => ?_
      · exact Exists.intro [] (ret_bool (hno (by simp only [chkS, ha, h7]; simp)) rfl)
      · refine And.intro (by omega) (And.intro (by omega) ?_)
        refine Exists.intro (i + 1) (And.intro (by show t.facts.length - (i + 1) < t.facts.length - i; omega) (And.intro ⟨hi, range_step hI.2 (by simp only [chkS, ha, h6, h7]; simp)⟩ (And.intro rfl ?_)))
        have e : updKV (.string t.facts[i]) (.v (.bool true)) (kvS (t.facts.take i)) = kvS (t.facts.take (i + 1)) := by
          rw [upd_kvS _ _ h7, List.take_add_one]; simp [hi]
        show (⟨out, [_, (288, .mp .str (updKV (.string t.facts[i]) (.v (.bool true)) (kvS (t.facts.take i))))]⟩ : St) = _
        rw [e]
    · exact Exists.intro [] (ret_bool (hno (by simp only [chkS, ha, h6]; simp)) rfl)
  have hi : i = t.facts.length := by have := hI.1; have := ge_of_dec h5; omega
  have hnf : namesB t.facts = true := by have := hI.2; rw [hi] at this; exact this
  clear hI h5
  have hln : (t.acts.map (·.name)).length = t.acts.length := List.length_map ..
  refine LoopW.mk Nat (fun i => i ≤ t.acts.length ∧ (List.range i).all (chkS (t.acts.map (·.name))) = true ∧ (t.acts.take i).all (actB t.facts.length) = true)
    (fun i => [(3, .int t.facts.length), (4, .mpr (.cur 440)), (57, .t (.sl t.an 4 (t.acts.map tAct))), (58, .int (t.acts.map tAct).length), (59, .int i)])
    (fun i => ⟨out, [(440, .mp .str (kvS ((t.acts.map (·.name)).take i)))]⟩) (fun i => t.acts.length - i) 0 ⟨Nat.zero_le _, rfl, rfl⟩ ⟨rfl, rfl⟩ ?_
  intro i ⟨hi0, hnm, hall⟩
  refine And.intro (fun h6 => ?_) fun h6 => ?_
  · have hi : i < t.acts.length := lt_of_dec h6
    have hi' : i < (t.acts.map (·.name)).length := by rw [hln]; exact hi
    have ha : atS (t.acts.map (·.name)) i = t.acts[i].name := by simp [atS, hi]
    have hno : chkS (t.acts.map (·.name)) i = false → isB t = false := fun h => by
      have : namesB (t.acts.map (·.name)) = false := range_false hi' h
      simp [isB, this]
    have hact : ∀ (h : actB t.facts.length t.acts[i] = false), isB t = false := fun h => by simp [isB, all_false hi h]
    refine And.intro (by omega) (Exists.intro _ (And.intro (get_map hi) ?_))
    refine SpecP.mono (f98_spec t.acts[i].name []) ?_
    rintro _ _ ⟨rfl, rfl⟩
    refine And.intro (fun h7 => ?_) fun h7 => ?_
    rotate_left
    · exact Exists.intro [] (ret_bool (hno (by simp only [chkS, ha, h7]; simp)) rfl)
    refine Exists.intro _ (And.intro (look_kvS _ _) ?_)
    refine And.intro (fun h8 => ?_) fun h8 => ?_
    · exact Exists.intro [] (ret_bool (hno (by simp only [chkS, ha, h8]; simp)) rfl)
    refine And.intro (fun h9 => ?_) fun h9 => ?_
    · exact Exists.intro [] (ret_bool (hact (by simp at h9; simp [actB]; omega)) rfl)
    refine And.intro (fun h10 => ?_) fun h10 => ?_
    · exact Exists.intro [] (ret_bool (hact (by simp at h10; simp [actB]; omega)) rfl)
    refine SpecP.mono (f85_spec t.acts[i].pn t.acts[i].pre t.facts.length []) ?_
    rintro _ _ ⟨rfl, rfl⟩
    refine And.intro (fun h11 => ?_) fun h11 => ?_
    rotate_left
    · exact Exists.intro [] (ret_bool (hact (by simp [actB, h11])) rfl)
    refine And.intro (fun h12 => ?_) fun h12 => ?_
    · exact Exists.intro [] (ret_bool (hact (by simp at h12; simp [actB]; omega)) rfl)
    have hel : t.acts[i].effs.length ≤ 100 := by simp at h12; omega
    have e : updKV (.string t.acts[i].name) (.v (.bool true)) (kvS ((t.acts.map (·.name)).take i)) = kvS ((t.acts.map (·.name)).take (i + 1)) := by
      rw [upd_kvS _ _ h8, List.take_add_one]; simp [hi]
    refine LoopW.mk Nat (fun j => j ≤ t.acts[i].effs.length ∧ (t.acts[i].effs.take j).all (effB t.facts.length) = true)
      (fun j => [(3, .int t.facts.length), (4, .mpr (.cur 440)), (57, .t (.sl t.an 4 (t.acts.map tAct))), (58, .int (t.acts.map tAct).length), (59, .int i), (100, .t (.sl t.acts[i].en 3 (t.acts[i].effs.map tEff))), (101, .int (t.acts[i].effs.map tEff).length), (102, .int j)])
      (fun j => ⟨out, [(440, .mp .str (kvS ((t.acts.map (·.name)).take (i + 1))))]⟩) (fun j => t.acts[i].effs.length - j) 0 ⟨Nat.zero_le _, rfl⟩ ⟨rfl, by rw [← e]; rfl⟩ fun j hJ => ?_
    refine And.intro (fun k1 => ?_) fun k1 => ?_
    · have hj : j < t.acts[i].effs.length := lt_of_dec k1
      have heff : ∀ (h : effB t.facts.length t.acts[i].effs[j] = false), isB t = false := fun h => hact (by simp [actB, all_false hj h])
      refine And.intro (by omega) (Exists.intro _ (And.intro (get_map hj) ?_))
      refine SpecP.mono (f85_spec t.acts[i].effs[j].nil t.acts[i].effs[j].when_ t.facts.length []) ?_
      rintro _ _ ⟨rfl, rfl⟩
      refine And.intro (fun k2 => ?_) fun k2 => ?_
      rotate_left
      · exact Exists.intro [] (ret_bool (heff (by simp [effB, k2])) rfl)
      refine And.intro (fun k3 => ?_) fun k3 => ?_
      · exact Exists.intro [] (ret_bool (heff (by simp at k3; simp [effB]; omega)) rfl)
      refine And.intro (fun k4 => ?_) fun k4 => ?_
      · exact Exists.intro [] (ret_bool (heff (by simp at k4; simp [effB]; omega)) rfl)
      refine And.intro (by omega) (And.intro (by omega) ?_)
      exact Exists.intro (j + 1) (And.intro (by show t.acts[i].effs.length - (j + 1) < t.acts[i].effs.length - j; omega) (And.intro ⟨hj, all_step hj hJ.2 (by simp at k3 k4; simp [effB, k2]; omega)⟩ (And.intro rfl rfl)))
    · have he : t.acts[i].effs.all (effB t.facts.length) = true := all_end (ge_of_dec k1) hJ.2
      have hb : actB t.facts.length t.acts[i] = true := by simp at h9 h10 h12; simp [actB, h11, he]; omega
      refine And.intro (by omega) (And.intro (by omega) ?_)
      exact Exists.intro (i + 1) (And.intro (by show t.acts.length - (i + 1) < t.acts.length - i; omega) (And.intro ⟨hi, range_step hnm (by simp only [chkS, ha, h7, h8]; simp), all_step hi hall hb⟩ (And.intro rfl rfl)))
  · have hi : i = t.acts.length := by have := ge_of_dec h6; omega
    have hn2 : namesB (t.acts.map (·.name)) = true := by unfold namesB; rw [hln, ← hi]; exact hnm
    rw [hi, List.take_length] at hall
    exact Exists.intro [] (ret_bool (by simp [isB, h3, h4, hl1, hl2, hall, hnf, hn2]) rfl)

end Go.Fw

/- What the program's functions do, part 14: binary search; functions that take functions. -/
namespace Go.Fw
open Go Go.Proofs
set_option maxRecDepth 10000

theorem f124_spec (x : Int) (out : List Fr) : SpecP Try.prog 124 [.int x] out fun r ro => r = .bool false ∧ ro = [] := by
  refine spec_body cx_ok [] [] (fn := Try.f124) (by kernel_rfl) rfl (by kernel_rfl) rfl (by unfold FnOK; kernel_rfl) fun hok => ?_
  refine And.intro (fun h => ?_) fun h => ?_
  · simp at h
  · exact Exists.intro [] (ret_bool rfl rfl)
theorem f109_spec (x : Int) (out : List Fr) : SpecP Try.prog 109 [.int x] out fun r ro => r = .bool false ∧ ro = [] := by
  refine spec_body cx_ok [] [] (fn := Try.f109) (by kernel_rfl) rfl (by kernel_rfl) rfl (by unfold FnOK; kernel_rfl) fun hok => ?_
  refine And.intro (fun h => ?_) fun h => ?_
  · simp at h
  · exact Exists.intro [] (ret_bool rfl rfl)
theorem f108_spec (x y : Int) (out : List Fr) : SpecP Try.prog 108 [.int x, .int y] out fun r ro => r = .bool (decide (x < y)) ∧ ro = [] := by
  refine spec_body cx_ok [] [] (fn := Try.f108) (by kernel_rfl) rfl (by kernel_rfl) rfl (by unfold FnOK; kernel_rfl) fun hok => ?_
  refine SpecP.mono (f124_spec x []) ?_
  rintro _ _ ⟨rfl, rfl⟩
  refine And.intro (fun h => Bool.noConfusion h) fun _ => ?_
  refine And.intro (fun h => ?_) fun h => ?_
  · exact Exists.intro [] (ret_bool h rfl)
  · exact Exists.intro [] (ret_bool h rfl)

theorem rising_lt {l : List Int} {n : Int} (h : risingB l n = true) : ∀ j i (hj : j < l.length) (hi : i < j), l[i]'(by omega) < l[j] := by
  have hs : ∀ i, i < l.length → chkI l n i = true := fun i hi => List.all_eq_true.1 h i (List.mem_range.2 hi)
  intro j
  induction j with
  | zero => intro i _ hi; omega
  | succ j ih =>
    intro i hj hi
    have h1 := hs (j + 1) hj
    simp only [chkI, Bool.and_eq_true, Bool.or_eq_true, decide_eq_true_eq, beq_iff_eq] at h1
    have h2 : l[j]'(by omega) < l[j + 1] := by
      rcases h1.2 with h1 | h1
      · omega
      · rw [Nat.add_sub_cancel] at h1
        rwa [at0_eq hj, at0_eq (show j < l.length by omega)] at h1
    rcases Nat.lt_or_ge i j with hij | hij
    · exact Int.lt_trans (ih i (by omega) hij) h2
    · have : i = j := by omega
      subst this; exact h2
theorem rising_in {l : List Int} {n : Int} (h : risingB l n = true) : ∀ x ∈ l, 0 ≤ x ∧ x < n := fun x hx => by
  obtain ⟨i, hi, rfl⟩ := List.getElem_of_mem hx
  have := List.all_eq_true.1 h i (List.mem_range.2 hi)
  simp only [chkI, Bool.and_eq_true, decide_eq_true_eq, at0_eq hi] at this
  exact this.1

theorem rising_len {l : List Int} {n : Int} (h : risingB l n = true) (hn : n ≤ 1000000000) : l.length ≤ 1000000000 := by
  have key : ∀ i (hi : i < l.length), (i : Int) ≤ l[i] := by
    intro i
    induction i with
    | zero => intro hi; exact (rising_in h _ (List.getElem_mem hi)).1
    | succ i ih => intro hi; have := ih (by omega); have := rising_lt h (i + 1) i hi (by omega); omega
  rcases Nat.eq_zero_or_pos l.length with h0 | h0
  · omega
  · have h1 := key (l.length - 1) (by omega)
    have h2 := (rising_in h _ (List.getElem_mem (show l.length - 1 < l.length by omega))).2
    omega
def kp100 : Kp := [(3, ([0, 1, 6, 7, 8], []))]
theorem f100_spec (n1 : Bool) (l : List Int) (n x : Int) (hs : risingB l n = true) (hn : n ≤ 1000000000) (out : List Fr) :
    SpecP Try.prog 100 [.ints n1 l, .int x] out fun r ro => ∃ p : Int, r = .tup [.int p, .bool (hasB l x)] ∧ ro = [] := by
  refine spec_body cx_ok kp100 [] (fn := Try.f100) (by kernel_rfl) rfl (by kernel_rfl) rfl (by unfold FnOK; kernel_rfl) fun hok => ?_
  have hmx := le_max hok.1.1
  have hlt := rising_lt hs
  have hln := rising_len hs hn
  refine LoopW.mk (Nat × Nat) (fun p => p.1 ≤ p.2 ∧ p.2 ≤ l.length ∧ (∀ i (h : i < l.length), i < p.1 → l[i] < x) ∧ (∀ i (h : i < l.length), p.2 ≤ i → x ≤ l[i]))
    (fun p => [(0, .ints n1 l), (1, .int x), (6, .int (l.map tI).length), (7, .int p.1), (8, .int p.2)]) (fun _ => ⟨out, []⟩) (fun p => p.2 - p.1) (0, (l.map tI).length) ⟨Nat.zero_le _, by simp, fun i _ h => by omega, fun i h h2 => by simp at h2; omega⟩ ⟨rfl, rfl⟩ ?_
  rintro ⟨a, b⟩ ⟨hab, hbl, h1, h2⟩
  simp only at hab hbl h1 h2
  refine And.intro (fun k1 => ?_) fun k1 => ?_
  · have hlt' : a < b := by simpa using k1
    refine And.intro (by omega) (And.intro (by omega) (And.intro (by omega) (And.intro (by omega) (And.intro (by omega) (And.intro rfl (And.intro (by omega) (And.intro (by omega) (And.intro (by omega) (And.intro (by omega) ?_)))))))))
    have hm : ((a : Int) + b) / 2 = ((a + b) / 2 : Nat) := by omega
    rw [hm]
    have hml : (a + b) / 2 < l.length := by omega
    refine And.intro (by omega) (Exists.intro _ (And.intro (get_map hml) ?_))
    refine SpecP.mono (f108_spec _ _ []) ?_
    rintro _ _ ⟨rfl, rfl⟩
    refine And.intro (fun k2 => ?_) fun k2 => ?_
    · refine And.intro (by omega) (And.intro (by omega) ?_)
      refine Exists.intro ((a + b) / 2 + 1, b) (And.intro (by show b - ((a + b) / 2 + 1) < b - a; omega) (And.intro ⟨by show (a + b) / 2 + 1 ≤ b; omega, hbl, fun i hi hia => ?_, h2⟩ (And.intro rfl rfl)))
      have hia : i < (a + b) / 2 + 1 := hia
      have k2 : l[(a + b) / 2] < x := by simpa using k2
      rcases Nat.lt_or_ge i ((a + b) / 2) with hj | hj
      · exact Int.lt_trans (hlt _ i hml hj) k2
      · have : i = (a + b) / 2 := by omega
        subst this; exact k2
    · refine Exists.intro (a, (a + b) / 2) (And.intro (by show (a + b) / 2 - a < b - a; omega) (And.intro ⟨by show a ≤ (a + b) / 2; omega, by show (a + b) / 2 ≤ l.length; omega, h1, fun i hi hia => ?_⟩ (And.intro rfl rfl)))
      have hia : (a + b) / 2 ≤ i := hia
      have k2 : x ≤ l[(a + b) / 2] := by simpa using k2
      rcases Nat.lt_or_ge ((a + b) / 2) i with hj | hj
      · have := hlt i _ hi hj; omega
      · have : i = (a + b) / 2 := by omega
        subst this; exact k2
  · have hba : a = b := by simp at k1; omega
    subst hba
    refine And.intro (fun k2 => ?_) fun k2 => ?_
    · have hal : a < l.length := by simpa using k2
      refine And.intro (by omega) (Exists.intro _ (And.intro (get_map hal) ?_))
      refine And.intro (fun k3 => ?_) fun k3 => ?_
      · have hh : hasB l x = true := any_true hal (by simpa using k3)
        rw [hh]
        exact Exists.intro [] ⟨_, rfl, rfl⟩
      · have hh : hasB l x = false := by
          cases hb : hasB l x with
          | false => rfl
          | true =>
            obtain ⟨y, hy, hyx⟩ := List.any_eq_true.1 hb
            obtain ⟨i, hi, rfl⟩ := List.getElem_of_mem hy
            have hyx : l[i] = x := by simpa using hyx
            have k3 : ¬ l[a] = x := by simpa using k3
            rcases Nat.lt_trichotomy i a with g | g | g
            · have := h1 i hi g; omega
            · subst g; exact absurd hyx k3
            · have := h2 a hal (Nat.le_refl _); have := hlt i a hi g; omega
        refine And.intro (by omega) (Exists.intro _ (And.intro (get_map hal) ?_))
        refine SpecP.mono (f109_spec _ []) ?_
        rintro _ _ ⟨rfl, rfl⟩
        refine And.intro (fun h => Bool.noConfusion h) fun _ => ?_
        rw [hh]
        exact Exists.intro [] ⟨_, rfl, rfl⟩
    · have hal : l.length ≤ a := by simpa using k2
      have hh : hasB l x = false := by
        cases hb : hasB l x with
        | false => rfl
        | true =>
          obtain ⟨y, hy, hyx⟩ := List.any_eq_true.1 hb
          obtain ⟨i, hi, rfl⟩ := List.getElem_of_mem hy
          have hyx : l[i] = x := by simpa using hyx
          have := h1 i hi (by omega); omega
      rw [hh]
      exact Exists.intro [] ⟨_, rfl, rfl⟩

theorem f88_spec (n1 : Bool) (l : List Int) (n x : Int) (hs : risingB l n = true) (hn : n ≤ 1000000000) (out : List Fr) : SpecP Try.prog 88 [.ints n1 l, .int x] out fun r ro => r = .bool (hasB l x) ∧ ro = [] := by
  refine spec_body cx_ok [] [] (fn := Try.f88) (by kernel_rfl) rfl (by kernel_rfl) rfl (by unfold FnOK; kernel_rfl) fun hok => ?_
  refine SpecP.mono (f100_spec n1 l n x hs hn []) ?_
  rintro _ _ ⟨p, rfl, rfl⟩
  refine And.intro (fun h => ?_) fun h => ?_
  · exact Exists.intro [] (ret_bool h rfl)
  · exact Exists.intro [] (ret_bool h rfl)

end Go.Fw

/- What the program's functions do, part 15: functions that take functions; True, Fine, all. -/
namespace Go.Fw
open Go Go.Proofs
set_option maxRecDepth 10000

def kp99 : Kp := [(2, ([0, 1, 7, 8], []))]
theorem f99_spec (n1 : Bool) (l : List Lit) (fc k s : Nat) (p : Lit → Bool) (out : List Fr)
    (hc : ∀ x ∈ l, SpecP Try.prog fc [.lit x, .ptr (.fr (k + 1) s) 0] ([] :: out) fun r ro => r = .bool (p x) ∧ ro = []) :
    SpecP Try.prog 99 [.lits n1 l, .fn fc [(.fr k s, 0)]] out fun r ro => ∃ j : Int, r = .int j ∧ decide (0 ≤ j) = l.any p ∧ ro = [] := by
  refine spec_body cx_ok kp99 [] (fn := Try.f99) (by kernel_rfl) rfl (by kernel_rfl) rfl (by unfold FnOK; kernel_rfl) fun hok => ?_
  have hmx := le_max hok.1.1
  refine LoopW.mk Nat (fun i => i ≤ l.length ∧ (l.take i).any p = false) (fun i => [(0, .lits n1 l), (1, .fn fc [(.fr k s, 0)]), (7, .int (l.map tLit).length), (8, .int i)]) (fun _ => ⟨out, []⟩) (fun i => l.length - i) 0 ⟨Nat.zero_le _, rfl⟩ ⟨rfl, rfl⟩ fun i hI => ?_
  refine And.intro (fun h1 => ?_) fun h1 => ?_
  · have hi := lt_of_dec h1
    refine And.intro (by omega) (Exists.intro _ (And.intro (get_map hi) ?_))
    refine SpecP.mono (hc _ (List.getElem_mem hi)) ?_
    rintro _ _ ⟨rfl, rfl⟩
    refine And.intro trivial (And.intro trivial ?_)
    refine And.intro (fun h2 => ?_) fun h2 => ?_
    · exact Exists.intro [] ⟨_, rfl, by rw [any_true hi h2]; simp, rfl⟩
    · refine And.intro (by omega) (And.intro (by omega) ?_)
      exact Exists.intro (i + 1) (And.intro (by show l.length - (i + 1) < l.length - i; omega) (And.intro ⟨hi, any_step hi hI.2 h2⟩ (And.intro rfl rfl)))
  · exact Exists.intro [] ⟨_, rfl, by rw [any_end (ge_of_dec h1) hI.2]; rfl, rfl⟩

theorem f86_spec (n1 : Bool) (l : List Lit) (fc k s : Nat) (p : Lit → Bool) (out : List Fr)
    (hc : ∀ x ∈ l, SpecP Try.prog fc [.lit x, .ptr (.fr (k + 2) s) 0] ([] :: [] :: out) fun r ro => r = .bool (p x) ∧ ro = []) :
    SpecP Try.prog 86 [.lits n1 l, .fn fc [(.fr k s, 0)]] out fun r ro => r = .bool (l.any p) ∧ ro = [] := by
  refine spec_body cx_ok [] [] (fn := Try.f86) (by kernel_rfl) rfl (by kernel_rfl) rfl (by unfold FnOK; kernel_rfl) fun hok => ?_
  refine SpecP.mono (f99_spec n1 l fc (k + 1) s p _ hc) ?_
  rintro _ _ ⟨j, rfl, hj, rfl⟩
  refine And.intro trivial (And.intro trivial ?_)
  refine And.intro (fun h => ?_) fun h => ?_
  · exact Exists.intro [] (ret_bool (by rw [← hj]; simpa using h) rfl)
  · exact Exists.intro [] (ret_bool (by rw [← hj]; simpa using h) rfl)

def od87 : Od := [(1, [(0, .pure), (1, .pure), (2, .pure), (4, .pure), (5, .pure), (3, .eff), (6, .pure), (7, .pure)])]
theorem f87_spec (n1 : Bool) (s : List Int) (n : Int) (hs : risingB s n = true) (hn : n ≤ 1000000000) (x : Lit) (fr0 fr1 fr2 : Fr) (out : List Fr) :
    SpecP Try.prog 87 [.lit x, .ptr (.fr 2 16) 0] (fr0 :: fr1 :: ((16, .box [.ints n1 s]) :: fr2) :: out) fun r ro => r = .bool (hasB s x.fact == x.neg) ∧ ro = [] := by
  refine spec_body cx_ok [] od87 (fn := Try.f87) (by kernel_rfl) rfl (by kernel_rfl) rfl (by unfold FnOK; kernel_rfl) fun hok => ?_
  refine Exists.intro _ (And.intro rfl ?_)
  refine And.intro (fun h1 => ?_) fun h1 => ?_
  · refine SpecP.mono (f88_spec n1 s n x.fact hs hn []) ?_
    rintro _ _ ⟨rfl, rfl⟩
    refine And.intro ⟨rfl, rfl, rfl⟩ ?_
    refine And.intro (fun h2 => ?_) fun h2 => ?_
    · refine And.intro (fun h3 => ?_) fun h3 => ?_
      · exact Exists.intro [] (ret_bool (by rw [h1, h2]; exact h3) rfl)
      · exact Exists.intro [] (ret_bool (by rw [h1, h2]; exact h3) rfl)
    · refine And.intro (fun h3 => ?_) fun h3 => ?_
      · exact Exists.intro [] (ret_bool (by rw [h1, h2]; exact h3) rfl)
      · exact Exists.intro [] (ret_bool (by rw [h1, h2]; exact h3) rfl)
  · refine SpecP.mono (f88_spec n1 s n x.fact hs hn []) ?_
    rintro _ _ ⟨rfl, rfl⟩
    refine And.intro ⟨rfl, rfl, rfl⟩ ?_
    refine And.intro (fun h2 => ?_) fun h2 => ?_
    · refine And.intro (fun h3 => ?_) fun h3 => ?_
      · exact Exists.intro [] (ret_bool (by rw [h1, h2]; exact h3) rfl)
      · exact Exists.intro [] (ret_bool (by rw [h1, h2]; exact h3) rfl)
    · refine And.intro (fun h3 => ?_) fun h3 => ?_
      · exact Exists.intro [] (ret_bool (by rw [h1, h2]; exact h3) rfl)
      · exact Exists.intro [] (ret_bool (by rw [h1, h2]; exact h3) rfl)

theorem not_any {l : List Lit} {p q : Lit → Bool} (h : ∀ x, q x = !p x) : l.all q = !l.any p := by
  induction l with
  | nil => rfl
  | cons x r ih => simp only [List.all_cons, List.any_cons, ih, h, Bool.not_or]

theorem f56_spec (n1 n2 : Bool) (s : List Int) (l : List Lit) (n : Int) (hs : risingB s n = true) (hn : n ≤ 1000000000) (out : List Fr) :
    SpecP Try.prog 56 [.ints n1 s, .lits n2 l] out fun r ro => r = .bool (holdsB s l) ∧ ro = [] := by
  refine spec_body cx_ok [] [] (fn := Try.f56) (by kernel_rfl) rfl (by kernel_rfl) rfl (by unfold FnOK; kernel_rfl) fun hok => ?_
  refine SpecP.mono (f86_spec n2 l 87 0 16 (fun x => hasB s x.fact == x.neg) _ (fun x _ => f87_spec n1 s n hs hn x [] [] [] out)) ?_
  rintro _ _ ⟨rfl, rfl⟩
  refine And.intro trivial (And.intro trivial ?_)
  have e : holdsB s l = !l.any (fun x => hasB s x.fact == x.neg) := not_any fun x => by cases hasB s x.fact <;> cases x.neg <;> rfl
  refine And.intro (fun h => ?_) fun h => ?_
  · exact Exists.intro [] (ret_bool (e.trans (congrArg not h)) rfl)
  · exact Exists.intro [] (ret_bool (e.trans (congrArg not h)) rfl)

def fineI (t : Task) (s : List Int) : Int := if isB t then (if risingB s t.facts.length then 0 else 20) else 10
theorem f54_spec (t : Task) (n1 : Bool) (s : List Int) (out : List Fr) : SpecP Try.prog 54 [.task t, .ints n1 s] out fun r ro => r = .int (fineI t s) ∧ ro = [] := by
  refine spec_body cx_ok [] [] (fn := Try.f54) (by kernel_rfl) rfl (by kernel_rfl) rfl (by unfold FnOK; kernel_rfl) fun hok => ?_
  refine SpecP.mono (f80_spec t []) ?_
  rintro _ _ ⟨rfl, rfl⟩
  refine And.intro (fun h1 => ?_) fun h1 => ?_
  · refine SpecP.mono (f71_spec n1 s (t.facts.map tS).length []) ?_
    rintro _ _ ⟨rfl, rfl⟩
    rw [List.length_map]
    refine And.intro (fun h2 => ?_) fun h2 => ?_
    · exact Exists.intro [] ⟨by simp only [fineI, h1, h2]; rfl, rfl⟩
    · exact Exists.intro [] ⟨by simp only [fineI, h1, h2]; rfl, rfl⟩
  · exact Exists.intro [] ⟨by simp only [fineI, h1]; rfl, rfl⟩

/-! ### all -/
def bitAt (b : List Bool) (l : Lit) : Bool := b.getD (codeI l).toNat false
def inB (b : List Bool) (l : Lit) : Prop := big l.fact ∧ 0 ≤ codeI l ∧ codeI l < b.length
theorem bit_get {b : List Bool} {l : Lit} (h : inB b l) : (b.map tB)[(codeI l).toNat]? = some (tB (bitAt b l)) := by
  obtain ⟨_, h0, h1⟩ := h
  have : (codeI l).toNat < b.length := by omega
  simp [bitAt, this]

def od89 : Od := [(1, [(0, .pure), (1, .pure), (2, .eff), (3, .pure), (4, .pure), (5, .pure), (6, .pure)])]
theorem f89_spec (n1 : Bool) (b : List Bool) (x : Lit) (hx : inB b x) (fr0 fr1 fr2 : Fr) (out : List Fr) :
    SpecP Try.prog 89 [.lit x, .ptr (.fr 2 16) 0] (fr0 :: fr1 :: ((16, .box [.bools n1 b]) :: fr2) :: out) fun r ro => r = .bool (!bitAt b x) ∧ ro = [] := by
  refine spec_body cx_ok [] od89 (fn := Try.f89) (by kernel_rfl) rfl (by kernel_rfl) rfl (by unfold FnOK; kernel_rfl) fun hok => ?_
  refine Exists.intro _ (And.intro rfl ?_)
  refine SpecP.mono (f68_spec x hx.1 []) ?_
  rintro _ _ ⟨rfl, rfl⟩
  refine And.intro ⟨rfl, rfl, rfl⟩ ?_
  refine And.intro hx.2.1 (Exists.intro _ (And.intro (bit_get hx) ?_))
  refine And.intro (fun h => ?_) fun h => ?_
  · exact Exists.intro [] (ret_bool (congrArg not h) rfl)
  · exact Exists.intro [] (ret_bool (congrArg not h) rfl)

theorem f57_spec (n1 n2 : Bool) (b : List Bool) (l : List Lit) (hl : ∀ x ∈ l, inB b x) (out : List Fr) :
    SpecP Try.prog 57 [.bools n1 b, .lits n2 l] out fun r ro => r = .bool (setHas b l) ∧ ro = [] := by
  refine spec_body cx_ok [] [] (fn := Try.f57) (by kernel_rfl) rfl (by kernel_rfl) rfl (by unfold FnOK; kernel_rfl) fun hok => ?_
  refine SpecP.mono (f86_spec n2 l 89 0 16 (fun x => !bitAt b x) _ (fun x hx => f89_spec n1 b x (hl x hx) [] [] [] out)) ?_
  rintro _ _ ⟨rfl, rfl⟩
  refine And.intro trivial (And.intro trivial ?_)
  have e : setHas b l = !l.any (fun x => !bitAt b x) := not_any fun x => by rw [Bool.not_not]; rfl
  refine And.intro (fun h => ?_) fun h => ?_
  · exact Exists.intro [] (ret_bool (e.trans (congrArg not h)) rfl)
  · exact Exists.intro [] (ret_bool (e.trans (congrArg not h)) rfl)

end Go.Fw

/- What is reached: the plain law (no program in sight but for the data). -/
namespace Go.Fw
open Go Go.Proofs

inductive Rch (t : Task) (s : List Int) (cnt : Nat → Lit → Bool) : Nat → Prop
  | ini (k : Nat) (hk : k < 2 * t.facts.length) (h : (hasB s ((k / 2 : Nat) : Int) != decide (k % 2 = 1)) = true) : Rch t s cnt k
  | eff (a : Nat) (x : Actn) (e : Eff) (hx : t.acts[a]? = some x) (he : e ∈ x.effs) (hc : cnt a e.lit = true) (hp : ∀ l ∈ x.pre, Rch t s cnt (codeI l).toNat) (hw : ∀ l ∈ e.when_, Rch t s cnt (codeI l).toNat) : Rch t s cnt (codeI e.lit).toNat

structure IsR (t : Task) (s : List Int) (cnt : Nat → Lit → Bool) (b : List Bool) : Prop where
  len : b.length = 2 * t.facts.length
  iff : ∀ k, b.getD k false = true ↔ Rch t s cnt k

theorem IsR.unique {t s cnt b b'} (h : IsR t s cnt b) (h' : IsR t s cnt b') : b = b' := by
  refine List.ext_getElem (by rw [h.len, h'.len]) fun k hk hk' => ?_
  have h1 := h.iff k
  have h2 := h'.iff k
  simp only [List.getD_eq_getElem?_getD, List.getElem?_eq_getElem hk, List.getElem?_eq_getElem hk', Option.getD_some] at h1 h2
  have := h1.trans h2.symm
  cases hb : b[k] <;> cases hb' : b'[k] <;> simp [hb, hb'] at this ⊢

theorem Rch.congr {t s} {cnt cnt' : Nat → Lit → Bool} (hc : ∀ a x e, t.acts[a]? = some x → e ∈ x.effs → cnt a e.lit = cnt' a e.lit) {k : Nat} (h : Rch t s cnt k) : Rch t s cnt' k := by
  induction h with
  | ini k hk h => exact .ini k hk h
  | eff a x e hx he hcc hp hw ihp ihw => exact .eff a x e hx he (by rw [← hc a x e hx he]; exact hcc) ihp ihw
theorem IsR.congr {t s b} {cnt cnt' : Nat → Lit → Bool} (hc : ∀ a x e, t.acts[a]? = some x → e ∈ x.effs → cnt a e.lit = cnt' a e.lit) (h : IsR t s cnt b) : IsR t s cnt' b :=
  ⟨h.len, fun k => (h.iff k).trans ⟨Rch.congr hc, Rch.congr fun a x e hx he => (hc a x e hx he).symm⟩⟩

/-! ### Tasks that are valid -/
def litIn (n : Nat) (l : Lit) : Prop := 0 ≤ l.fact ∧ l.fact < n
structure TaskOK (t : Task) : Prop where
  facts : t.facts.length ≤ 200
  acts : t.acts.length ≤ 1000
  goal : ∀ l ∈ t.goal, litIn t.facts.length l
  effs : ∀ x ∈ t.acts, x.effs.length ≤ 100
  cost : ∀ x ∈ t.acts, 0 ≤ x.cost ∧ x.cost ≤ 100000
  pre : ∀ x ∈ t.acts, ∀ l ∈ x.pre, litIn t.facts.length l
  lit : ∀ x ∈ t.acts, ∀ e ∈ x.effs, litIn t.facts.length e.lit
  whn : ∀ x ∈ t.acts, ∀ e ∈ x.effs, ∀ l ∈ e.when_, litIn t.facts.length l

theorem cond_in {l : List Lit} {n : Nat} (h : condB l n = true) : ∀ x ∈ l, litIn n x := fun _ hx => rising_in h _ (List.mem_map_of_mem hx)
theorem task_ok {t : Task} (h : isB t = true) : TaskOK t := by
  simp only [isB, Bool.and_eq_true, decide_eq_true_eq] at h
  obtain ⟨⟨⟨⟨⟨⟨h1, _⟩, _⟩, h4⟩, h5⟩, h6⟩, _⟩ := h
  have ha : ∀ x ∈ t.acts, actB t.facts.length x = true := List.all_eq_true.1 h6
  have hp : ∀ x ∈ t.acts, ((0 ≤ x.cost ∧ x.cost ≤ 100000) ∧ condB x.pre t.facts.length = true) ∧ x.effs.length ≤ 100 ∧ ∀ e ∈ x.effs, effB t.facts.length e = true := fun x hx => by
    have := ha x hx
    simp only [actB, Bool.and_eq_true, decide_eq_true_eq] at this
    exact ⟨⟨⟨this.1.1.1.1, this.1.1.1.2⟩, this.1.1.2⟩, this.1.2, List.all_eq_true.1 this.2⟩
  have hq : ∀ x ∈ t.acts, ∀ e ∈ x.effs, condB e.when_ t.facts.length = true ∧ litIn t.facts.length e.lit := fun x hx e he => by
    have := (hp x hx).2.2 e he
    simp only [effB, Bool.and_eq_true, decide_eq_true_eq] at this
    exact ⟨this.1.1, this.1.2, this.2⟩
  exact ⟨h1, h5, cond_in h4, fun x hx => (hp x hx).2.1, fun x hx => (hp x hx).1.1, fun x hx => cond_in (hp x hx).1.2, fun x hx e he => (hq x hx e he).2, fun x hx e he => cond_in (hq x hx e he).1⟩

theorem litIn.inB {n : Nat} {l : Lit} {b : List Bool} (h : litIn n l) (hn : n ≤ 200) (hb : b.length = 2 * n) : inB b l := by
  obtain ⟨h0, h1⟩ := h
  refine ⟨⟨by omega, by omega⟩, ?_, ?_⟩ <;> (unfold codeI; split <;> omega)

/-! ### Bits -/
theorem getD_set {b : List Bool} {i j : Nat} {v : Bool} (hi : i < b.length) : (b.set i v).getD j false = if i = j then v else b.getD j false := by
  simp only [List.getD_eq_getElem?_getD, List.getElem?_set]
  by_cases h : i = j
  · subst h; simp [hi]
  · simp [h]
theorem getD_set_true {b : List Bool} {i j : Nat} (h : b.getD j false = true) : (b.set i true).getD j false = true := by
  by_cases hi : i < b.length
  · rw [getD_set hi]
    split
    · rfl
    · exact h
  · rw [List.set_eq_of_length_le (by omega)]; exact h
theorem falses_set {b : List Bool} {i : Nat} (hi : i < b.length) (h : b.getD i false = false) : (b.set i true).count false < b.count false := by
  have h' : b[i] = false := by simpa [hi] using h
  have hpos : 0 < b.count false := List.count_pos_iff.2 (by rw [← h']; exact List.getElem_mem hi)
  rw [List.count_set hi, h']
  simp
  omega
theorem setHas_mono {b : List Bool} {i : Nat} {l : List Lit} (h : setHas b l = true) : setHas (b.set i true) l = true := by
  rw [setHas, List.all_eq_true] at *
  exact fun x hx => getD_set_true (h x hx)

def Sound (t : Task) (s : List Int) (cnt : Nat → Lit → Bool) (b : List Bool) : Prop := ∀ k, b.getD k false = true → Rch t s cnt k
theorem Sound.has {t s cnt b} (h : Sound t s cnt b) {l : List Lit} (hl : setHas b l = true) : ∀ x ∈ l, Rch t s cnt (codeI x).toNat := fun x hx => h _ (List.all_eq_true.1 hl x hx)
theorem Sound.set {t s cnt b} (h : Sound t s cnt b) {k : Nat} (hk : Rch t s cnt k) : Sound t s cnt (b.set k true) := fun j hj => by
  by_cases hi : k < b.length
  · rw [getD_set hi] at hj
    split at hj
    · rename_i he; rw [← he]; exact hk
    · exact h j hj
  · rw [List.set_eq_of_length_le (by omega)] at hj; exact h j hj
def CloE (cnt : Nat → Lit → Bool) (b : List Bool) (a : Nat) (e : Eff) : Prop := cnt a e.lit = true → setHas b e.when_ = true → bitAt b e.lit = true
def Clo (t : Task) (cnt : Nat → Lit → Bool) (b : List Bool) (a : Nat) : Prop := ∀ x, t.acts[a]? = some x → setHas b x.pre = true → ∀ e ∈ x.effs, CloE cnt b a e
def Ini (n : Nat) (l : List Int) (b : List Bool) : Prop := b.length = 2 * n ∧ ∀ k, k < 2 * n → b.getD k false = (hasB l ((k / 2 : Nat) : Int) != decide (k % 2 = 1))

theorem isR_of {t s cnt b} (hl : b.length = 2 * t.facts.length) (hs : Sound t s cnt b) (hi : ∀ k, k < 2 * t.facts.length → (hasB s ((k / 2 : Nat) : Int) != decide (k % 2 = 1)) = true → b.getD k false = true) (hc : ∀ a, a < t.acts.length → Clo t cnt b a) : IsR t s cnt b := by
  refine ⟨hl, fun k => ⟨hs k, fun h => ?_⟩⟩
  induction h with
  | ini k hk h => exact hi k hk h
  | eff a x e hx he hcc hp hw ihp ihw =>
    exact hc a (List.getElem?_eq_some_iff.1 hx).1 x hx (List.all_eq_true.2 ihp) e he hcc (List.all_eq_true.2 ihw)

theorem Ini.sound {t s cnt b} (h : Ini t.facts.length s b) : Sound t s cnt b := fun k hk => by
  by_cases hl : k < 2 * t.facts.length
  · exact .ini k hl (by rw [← h.2 k hl]; exact hk)
  · have : b.getD k false = false := by simp only [List.getD_eq_getElem?_getD]; rw [List.getElem?_eq_none (by rw [h.1]; omega)]; rfl
    rw [this] at hk; cases hk

def Odds (n i : Nat) (b : List Bool) : Prop := b.length = 2 * n ∧ ∀ k, k < 2 * n → b.getD k false = (decide (k / 2 < i) && decide (k % 2 = 1))
theorem Odds.zero (n : Nat) : Odds n 0 (List.replicate (2 * n) false) := ⟨by simp, fun k hk => by simp [List.getD_eq_getElem?_getD, hk]⟩
theorem Odds.step {n i : Nat} {b : List Bool} (h : Odds n i b) (hi : i < n) : Odds n (i + 1) (b.set (2 * i + 1) true) := by
  refine ⟨by simp [h.1], fun k hk => ?_⟩
  rw [getD_set (by rw [h.1]; omega)]
  split
  · rename_i he; subst he
    have h1 : (2 * i + 1) / 2 < i + 1 := by omega
    have h2 : (2 * i + 1) % 2 = 1 := by omega
    simp only [h1, h2, decide_true, Bool.and_self]
  · rename_i he
    rw [h.2 k hk]
    by_cases h2 : k % 2 = 1
    · have : k / 2 < i ↔ k / 2 < i + 1 := by omega
      simp only [this]
    · simp only [h2, decide_false, Bool.and_false]
theorem Odds.ini {n : Nat} {b : List Bool} (h : Odds n n b) : Ini n [] b := ⟨h.1, fun k hk => by
  rw [h.2 k hk]
  have : k / 2 < n := by omega
  simp [this, hasB]⟩
theorem hasB_snoc (l : List Int) (f x : Int) : hasB (l ++ [f]) x = (hasB l x || f == x) := by simp [hasB, List.any_append]
theorem Ini.step {n f : Nat} {l : List Int} {b : List Bool} (h : Ini n l b) (hf : f < n) : Ini n (l ++ [(f : Int)]) ((b.set (2 * f) true).set (2 * f + 1) false) := by
  refine ⟨by simp [h.1], fun k hk => ?_⟩
  rw [getD_set (by simp [h.1]; omega), getD_set (by rw [h.1]; omega), hasB_snoc]
  by_cases h1 : 2 * f + 1 = k
  · subst h1
    have e1 : (2 * f + 1) / 2 = f := by omega
    have e2 : (2 * f + 1) % 2 = 1 := by omega
    simp [e1, e2]
  · by_cases h2 : 2 * f = k
    · subst h2
      have e1 : 2 * f / 2 = f := by omega
      have e2 : 2 * f % 2 = 0 := by omega
      simp [e1, e2]
    · rw [if_neg h1, if_neg h2, h.2 k hk]
      have : ((f : Int) == ((k / 2 : Nat) : Int)) = false := by simp; omega
      rw [this, Bool.or_false]

theorem bits_get {n : Nat} {l : List Int} (hl : ∀ x ∈ l, 0 ≤ x ∧ x < n) {f : Nat} (hf : f < n) : (bitsL n l).getD f false = hasB l f := by
  have : ∀ (l : List Int) (b : List Bool), (∀ x ∈ l, 0 ≤ x ∧ x < n) → b.length = n → (l.foldl (fun b x => b.set x.toNat true) b).getD f false = (b.getD f false || hasB l f) := by
    intro l
    induction l with
    | nil => intro b _ _; simp [hasB]
    | cons x r ih =>
      intro b hx hb
      rw [List.foldl_cons, ih _ (fun y hy => hx y (List.mem_cons_of_mem _ hy)) (by simp [hb])]
      have hx0 := hx x (List.mem_cons_self ..)
      rw [getD_set (by omega)]
      simp only [hasB, List.any_cons]
      by_cases he : x.toNat = f
      · have : (x == (f : Int)) = true := by simp; omega
        simp [he, this]
      · have : (x == (f : Int)) = false := by simp; omega
        simp [he, this]
  rw [bitsL, this l _ hl (by simp)]
  simp [List.getD_eq_getElem?_getD, hf]

def Half (n : Nat) (l : List Int) (i : Nat) (b : List Bool) : Prop := b.length = 2 * n ∧ ∀ k, k < 2 * n → b.getD k false = (decide (k / 2 < i) && (hasB l ((k / 2 : Nat) : Int) != decide (k % 2 = 1)))
theorem Half.zero (n : Nat) (l : List Int) : Half n l 0 (List.replicate (2 * n) false) := ⟨by simp, fun k hk => by simp [List.getD_eq_getElem?_getD, hk]⟩
theorem Half.step {n i : Nat} {l : List Int} {b : List Bool} (h : Half n l i b) (hi : i < n) : Half n l (i + 1) (b.set (codeI ⟨(i : Int), !hasB l i⟩).toNat true) := by
  refine ⟨by simp [h.1], fun k hk => ?_⟩
  have hc : (codeI ⟨(i : Int), !hasB l i⟩).toNat = if hasB l i = true then 2 * i else 2 * i + 1 := by
    unfold codeI
    cases hasB l i <;> simp <;> omega
  rw [hc, getD_set (by rw [h.1]; split <;> omega), h.2 k hk]
  by_cases hki : k / 2 = i
  · have h1 : k / 2 < i + 1 := by omega
    have h2 : ¬ k / 2 < i := by omega
    simp only [h1, h2, decide_true, decide_false, Bool.true_and, Bool.false_and]
    rw [hki]
    cases hb : hasB l i
    · by_cases hk1 : k % 2 = 1
      · have : 2 * i + 1 = k := by omega
        simp [this, hk1]
      · have : ¬ 2 * i + 1 = k := by omega
        simp [this, hk1]
    · by_cases hk1 : k % 2 = 1
      · have : ¬ 2 * i = k := by omega
        simp [this, hk1]
      · have : 2 * i = k := by omega
        simp [this, hk1]
  · have h1 : k / 2 < i + 1 ↔ k / 2 < i := by omega
    have h2 : ¬ (if hasB l i = true then 2 * i else 2 * i + 1) = k := by split <;> omega
    simp only [h1, h2, if_false]
theorem Half.ini {n : Nat} {l : List Int} {b : List Bool} (h : Half n l n b) : Ini n l b := ⟨h.1, fun k hk => by
  rw [h.2 k hk]
  have : k / 2 < n := by omega
  simp [this]⟩

end Go.Fw

/- What the program's functions do, part 16: the reference's Reach. -/
namespace Go.Fw
open Go Go.Proofs
set_option maxRecDepth 10000

abbrev cellsTask (t : Task) : List LV := [.t (.sl t.fn 1 (t.facts.map tS)), .t (.sl t.ni 1 (t.init.map tI)), .t (.sl t.gn 2 (t.goal.map tLit)), .t (.sl t.an 4 (t.acts.map tAct))]
def cntR (o : List Bool) (less : Int) (a : Nat) (l : Lit) : Bool := !o.getD a false && decide (codeI l ≠ less)

/-- In the middle of a pass: what was done since it began. -/
structure Mid (t : Task) (s : List Int) (cnt : Nat → Lit → Bool) (b b' : List Bool) (g : Bool) (D : Prop) : Prop where
  len : b'.length = 2 * t.facts.length
  sound : Sound t s cnt b'
  ini : ∀ k, k < 2 * t.facts.length → (hasB s ((k / 2 : Nat) : Int) != decide (k % 2 = 1)) = true → b'.getD k false = true
  no : g = false → b' = b ∧ D
  yes : g = true → b'.count false < b.count false
theorem Mid.weak {t s cnt b b' g} {D D' : Prop} (h : Mid t s cnt b b' g D) (hd : g = false → b' = b → D → D') : Mid t s cnt b b' g D' :=
  ⟨h.len, h.sound, h.ini, fun hg => ⟨(h.no hg).1, hd hg (h.no hg).1 (h.no hg).2⟩, h.yes⟩
theorem Mid.set {t s cnt b b' g} {D D' : Prop} (h : Mid t s cnt b b' g D) {k : Nat} (hk : k < b'.length) (h0 : b'.getD k false = false) (hr : Rch t s cnt k) : Mid t s cnt b (b'.set k true) true D' :=
  ⟨by rw [List.length_set]; exact h.len, h.sound.set hr, fun j hj hi => getD_set_true (h.ini j hj hi), fun hg => (by cases hg), fun _ => by
    have := falses_set hk h0
    cases g with
    | true => have := h.yes rfl; omega
    | false => rw [(h.no rfl).1] at this ⊢; exact this⟩
theorem take_all {α : Type} {l : List α} : l = (l.drop 0).take l.length := by rw [List.drop_zero, List.take_of_length_le (Nat.le_refl _)]
theorem lend {b : List Bool} {n : Nat} (h : b.length = n) : b.map tB = ((b.map tB).drop 0).take n := by
  rw [List.drop_zero, List.take_of_length_le (by simp [h])]
theorem lend2 {b : List Bool} {n : Nat} (h : b.length = n) : 0 + n ≤ (b.map tB).length := by simp [h]

theorem lend3 (l : List Int) : 0 + (l.map tI).length ≤ (l.map tI).length := by simp

def kp27 : Kp := [(3, ([2, 3, 4, 9, 27, 28, 29], [32, 176, 217000723])), (8, ([2, 3, 4, 9, 12], [32, 176])), (11, ([2, 3, 4, 9, 12, 44, 45, 46], [32, 176])), (15, ([2, 3, 4, 9, 12, 44, 45, 46, 63, 64, 65], [32, 176]))]
theorem f27_spec (t : Task) (n1 n2 : Bool) (s : List Int) (o : List Bool) (less : Int) (ht : isB t = true) (hs : risingB s t.facts.length = true) (ho : o.length = t.acts.length) (out : List Fr) :
    SpecP Try.prog 27 [.task t, .ints n1 s, .bools n2 o, .int less] out fun r ro => ∃ b, IsR t s (cntR o less) b ∧ r = .osl (.cur 176) 1 0 b.length ∧ ro = [(176, .row 4 1 (b.map tB))] := by
  refine spec_body cx_ok kp27 [] (fn := Try.f27) (by kernel_rfl) rfl (by kernel_rfl) rfl (by unfold FnOK; kernel_rfl) fun hok => ?_
  have T := task_ok ht
  have hin := rising_in hs
  have hfl : (t.facts.map tS).length = t.facts.length := List.length_map ..
  have hal : (t.acts.map tAct).length = t.acts.length := List.length_map ..
  have hN := T.facts
  have hA := T.acts
  refine And.intro (by omega) (And.intro (by omega) ?_)
  refine And.intro rfl (And.intro (by omega) (And.intro (by show (2 * ((t.facts.map tS).length : Int)) * (1 : Nat) ≤ _; omega) (And.intro (by omega) ?_)))
  refine SpecP.mono (f69_spec (t.facts.map tS).length n1 s (by omega) (by rw [hfl]; exact hin) []) ?_
  rintro _ _ ⟨rfl, rfl⟩
  refine LoopW.mk (Nat × List Bool) (fun p => p.1 ≤ t.facts.length ∧ Half t.facts.length s p.1 p.2)
    (fun p => [(2, .bools n2 o), (3, .int less), (4, .ptr (.cur 32) 0), (9, .osl (.cur 176) 1 0 (2 * (t.facts.map tS).length)), (27, .osl (.cur 217000723) 1 0 (t.facts.map tS).length), (28, .int (t.facts.map tS).length), (29, .int p.1)])
    (fun p => ⟨out, [(32, .box (cellsTask t)), (176, .row 4 1 (p.2.map tB)), (217000723, .row 4 1 ((bitsL (t.facts.map tS).length s).map tB))]⟩) (fun p => t.facts.length - p.1) (0, List.replicate (2 * (t.facts.map tS).length) false) ⟨Nat.zero_le _, by rw [hfl]; exact Half.zero _ _⟩ ⟨rfl, ?_⟩ ?_
  · show (⟨out, [(32, .box (cellsTask t)), (176, .row 4 1 (List.replicate (2 * (t.facts.map tS).length) (tB false))), (217000723, .row 4 1 ((bitsL (t.facts.map tS).length s).map tB))]⟩ : St) = _
    rw [List.map_replicate]
  rintro ⟨i, b⟩ ⟨hi0, hH⟩
  simp only at hi0 hH
  refine And.intro (fun h1 => ?_) fun h1 => ?_
  · have hi : i < t.facts.length := lt_of_dec h1
    have hbl : b.length = 2 * t.facts.length := hH.1
    have hbit : ((bitsL (t.facts.map tS).length s).map tB)[0 + ((i : Int)).toNat]? = some (tB (hasB s i)) := by
      rw [hfl, Nat.zero_add, Int.toNat_natCast, List.getElem?_map]
      have h2 := bits_get hin hi
      have hlt : i < (bitsL t.facts.length s).length := by rw [bitsL_length]; exact hi
      rw [List.getD_eq_getElem?_getD, List.getElem?_eq_getElem hlt] at h2
      rw [List.getElem?_eq_getElem hlt, ← h2]; rfl
    refine And.intro (by omega) (And.intro (by omega) (Exists.intro _ (And.intro hbit ?_)))
    have fin : ∀ v : Bool, hasB s i = v → SpecP Try.prog 63 [.lit ⟨i, !v⟩] [] fun r ro => r = .int (codeI ⟨i, !v⟩) ∧ ro = [] := fun v _ => f63_spec _ ⟨by show _ ≤ (i : Int); omega, by show (i : Int) ≤ _; omega⟩ []
    have hc : ∀ v : Bool, 0 ≤ codeI ⟨i, !v⟩ ∧ codeI ⟨i, !v⟩ < (2 * (t.facts.map tS).length : Nat) := fun v => by
      unfold codeI; cases v <;> simp <;> omega
    have hel : ∀ v : Bool, ∃ y : Bool, (b.map tB)[0 + (codeI ⟨i, !v⟩).toNat]? = some (tB y) := fun v => by
      have := hc v
      have hlt : (codeI ⟨i, !v⟩).toNat < b.length := by rw [hbl]; omega
      exact ⟨b[(codeI ⟨i, !v⟩).toNat], by rw [Nat.zero_add, List.getElem?_map, List.getElem?_eq_getElem hlt]; rfl⟩
    have hst : ∀ v : Bool, hasB s i = v → (b.map tB).set (0 + (codeI ⟨i, !v⟩).toNat) (tB true) = (b.set (codeI ⟨(i : Int), !hasB s i⟩).toNat true).map tB := fun v hv => by rw [hv, Nat.zero_add, map_set']
    refine And.intro (fun h2 => ?_) fun h2 => ?_
    · refine SpecP.mono (fin _ h2) ?_
      rintro _ _ ⟨rfl, rfl⟩
      obtain ⟨y, hy⟩ := hel true
      refine And.intro (hc true).1 (And.intro (hc true).2 (Exists.intro _ (And.intro hy (And.intro (Nat.le_refl 1) ?_))))
      refine And.intro (by omega) (And.intro (by omega) ?_)
      refine Exists.intro (i + 1, b.set (codeI ⟨(i : Int), !hasB s i⟩).toNat true) (And.intro (by show t.facts.length - (i + 1) < t.facts.length - i; omega) (And.intro ⟨hi, hH.step hi⟩ (And.intro rfl ?_)))
      rw [← hst _ h2]; rfl
    · refine SpecP.mono (fin _ h2) ?_
      rintro _ _ ⟨rfl, rfl⟩
      obtain ⟨y, hy⟩ := hel false
      refine And.intro (hc false).1 (And.intro (hc false).2 (Exists.intro _ (And.intro hy (And.intro (Nat.le_refl 1) ?_))))
      refine And.intro (by omega) (And.intro (by omega) ?_)
      refine Exists.intro (i + 1, b.set (codeI ⟨(i : Int), !hasB s i⟩).toNat true) (And.intro (by show t.facts.length - (i + 1) < t.facts.length - i; omega) (And.intro ⟨hi, hH.step hi⟩ (And.intro rfl ?_)))
      rw [← hst _ h2]; rfl
  have hi : i = t.facts.length := by have := ge_of_dec h1; omega
  subst hi
  have hI := hH.ini
  clear hH h1 hi0
  refine LoopW.mk (List Bool × Bool) (fun p => Mid t s (cntR o less) p.1 p.1 false (p.2 = false → ∀ a, a < t.acts.length → Clo t (cntR o less) p.1 a))
    (fun p => [(2, .bools n2 o), (3, .int less), (4, .ptr (.cur 32) 0), (9, .osl (.cur 176) 1 0 (2 * (t.facts.map tS).length)), (12, .bool p.2)])
    (fun p => ⟨out, [(32, .box (cellsTask t)), (176, .row 4 1 (p.1.map tB))]⟩) (fun p => if p.2 = true then p.1.count false + 1 else 0) (b, true)
    ⟨hI.1, hI.sound, fun k hk h => by rw [hI.2 k hk]; exact h, fun _ => ⟨rfl, fun h => by cases h⟩, fun h => by cases h⟩ ⟨rfl, rfl⟩ ?_
  clear hI
  clear b
  rintro ⟨b, more⟩ hM
  simp only at hM
  cases more with
  | false =>
    refine Exists.intro [176] ⟨b, isR_of hM.len hM.sound hM.ini ((hM.no rfl).2 rfl), ?_, rfl⟩
    show LV.osl (.cur 176) 1 0 (2 * (t.facts.map tS).length) = _
    rw [hM.len, hfl]
  | true =>
    have hM0 : Mid t s (cntR o less) b b false True := hM.weak fun _ _ _ => trivial
    clear hM
    refine LoopW.mk (Nat × List Bool × Bool) (fun p => p.1 ≤ t.acts.length ∧ Mid t s (cntR o less) b p.2.1 p.2.2 (∀ a, a < p.1 → Clo t (cntR o less) b a))
      (fun p => [(2, .bools n2 o), (3, .int less), (4, .ptr (.cur 32) 0), (9, .osl (.cur 176) 1 0 (2 * (t.facts.map tS).length)), (12, .bool p.2.2), (44, .t (.sl t.an 4 (t.acts.map tAct))), (45, .int (t.acts.map tAct).length), (46, .int p.1)])
      (fun p => ⟨out, [(32, .box (cellsTask t)), (176, .row 4 1 (p.2.1.map tB))]⟩) (fun p => t.acts.length - p.1) (0, b, false) ⟨Nat.zero_le _, hM0.weak fun _ _ _ a ha => by simp at ha⟩ ⟨rfl, rfl⟩ ?_
    rintro ⟨a, b1, g⟩ ⟨ha0, hM⟩
    simp only at ha0 hM
    have hb1 : b1.length = 2 * (t.facts.map tS).length := by rw [hM.len, hfl]
    refine And.intro (fun h2 => ?_) fun h2 => ?_
    · have ha : a < t.acts.length := lt_of_dec h2
      have hax : t.acts[a]? = some t.acts[a] := List.getElem?_eq_getElem ha
      have hmem : t.acts[a] ∈ t.acts := List.getElem_mem ha
      have hob : o.getD a false = o[a]'(by omega) := by simp [List.getD_eq_getElem?_getD, show a < o.length by omega]
      have hclo : (Clo t (cntR o less) b a) → ∀ {b2 g2}, Mid t s (cntR o less) b b2 g2 (∀ a', a' < a → Clo t (cntR o less) b a') → Mid t s (cntR o less) b b2 g2 (∀ a', a' < a + 1 → Clo t (cntR o less) b a') := fun hc {b2 g2} hM => hM.weak fun _ _ hp a' ha' => by
        rcases Nat.lt_or_ge a' a with h | h
        · exact hp a' h
        · rw [show a' = a by omega]; exact hc
      refine And.intro (by omega) (Exists.intro _ (And.intro (get_map ha) ?_))
      refine And.intro (by omega) (Exists.intro _ (And.intro (get_map (show a < o.length by omega)) ?_))
      refine And.intro (fun h3 => ?_) fun h3 => ?_
      · refine And.intro (by omega) (And.intro (by omega) ?_)
        refine Exists.intro (a + 1, b1, g) (And.intro (by show t.acts.length - (a + 1) < t.acts.length - a; omega) (And.intro ⟨ha, hclo (fun x hx _ e _ hcnt => ?_) hM⟩ (And.intro rfl rfl)))
        simp only [cntR, hob, h3, Bool.not_true, Bool.false_and] at hcnt
        cases hcnt
      refine Exists.intro (b1.map tB) (And.intro (lend hb1) (And.intro (lend2 hb1) ?_))
      refine SpecP.mono (f28_spec false t.acts[a].pn b1 t.acts[a].pre (fun x hx => (T.pre _ hmem x hx).inB hN hM.len) _) ?_
      rintro _ _ ⟨rfl, rfl⟩
      refine And.intro trivial (And.intro trivial ?_)
      refine And.intro (fun h4 => ?_) fun h4 => ?_
      rotate_left
      · refine And.intro (by omega) (And.intro (by omega) ?_)
        refine Exists.intro (a + 1, b1, g) (And.intro (by show t.acts.length - (a + 1) < t.acts.length - a; omega) (And.intro ⟨ha, ?_⟩ (And.intro rfl rfl)))
        refine hM.weak fun hg hbb hp a' ha' => ?_
        rcases Nat.lt_or_ge a' a with h | h
        · exact hp a' h
        · rw [show a' = a by omega]
          intro x hx hpre
          rw [hax] at hx; cases hx
          rw [← hbb, h4] at hpre; cases hpre
      have hE := T.effs _ hmem
      refine LoopW.mk (Nat × List Bool × Bool) (fun p => p.1 ≤ t.acts[a].effs.length ∧ setHas p.2.1 t.acts[a].pre = true ∧ Mid t s (cntR o less) b p.2.1 p.2.2 ((∀ a', a' < a → Clo t (cntR o less) b a') ∧ ∀ e ∈ t.acts[a].effs.take p.1, CloE (cntR o less) b a e))
        (fun p => [(2, .bools n2 o), (3, .int less), (4, .ptr (.cur 32) 0), (9, .osl (.cur 176) 1 0 (2 * (t.facts.map tS).length)), (12, .bool p.2.2), (44, .t (.sl t.an 4 (t.acts.map tAct))), (45, .int (t.acts.map tAct).length), (46, .int a), (63, .t (.sl t.acts[a].en 3 (t.acts[a].effs.map tEff))), (64, .int (t.acts[a].effs.map tEff).length), (65, .int p.1)])
        (fun p => ⟨out, [(32, .box (cellsTask t)), (176, .row 4 1 (p.2.1.map tB))]⟩) (fun p => t.acts[a].effs.length - p.1) (0, b1, g) ⟨Nat.zero_le _, h4, hM.weak fun _ _ hp => ⟨hp, fun e he => by simp at he⟩⟩ ⟨rfl, rfl⟩ ?_
      clear hM hb1 h4 h2 ha0
      rintro ⟨j, b2, g2⟩ ⟨hj0, hpre, hM⟩
      simp only at hj0 hpre hM
      have hb2 : b2.length = 2 * (t.facts.map tS).length := by rw [hM.len, hfl]
      refine And.intro (fun h5 => ?_) fun h5 => ?_
      · have hj : j < t.acts[a].effs.length := lt_of_dec h5
        have hem : t.acts[a].effs[j] ∈ t.acts[a].effs := List.getElem_mem hj
        have hil := T.lit _ hmem _ hem
        have hib : inB b2 t.acts[a].effs[j].lit := hil.inB hN hM.len
        obtain ⟨hbig, hc0, hc1⟩ := hib
        have hget : (b2.map tB)[0 + (codeI t.acts[a].effs[j].lit).toNat]? = some (tB (bitAt b2 t.acts[a].effs[j].lit)) := by rw [Nat.zero_add]; exact bit_get ⟨hbig, hc0, hc1⟩
        -- the round leaves things as they were
        have skip : CloE (cntR o less) b2 a t.acts[a].effs[j] → Mid t s (cntR o less) b b2 g2 ((∀ a', a' < a → Clo t (cntR o less) b a') ∧ ∀ e ∈ t.acts[a].effs.take (j + 1), CloE (cntR o less) b a e) := fun hc => hM.weak fun hg hbb hp => ⟨hp.1, fun e he => by
          rw [List.take_add_one, List.getElem?_eq_getElem hj] at he
          rcases List.mem_append.1 he with he | he
          · exact hp.2 e he
          · simp at he; rw [he, ← hbb]; exact hc⟩
        have next : ∀ {b3 : List Bool} {g3 : Bool}, setHas b3 t.acts[a].pre = true → Mid t s (cntR o less) b b3 g3 ((∀ a', a' < a → Clo t (cntR o less) b a') ∧ ∀ e ∈ t.acts[a].effs.take (j + 1), CloE (cntR o less) b a e) → ∀ {st : St}, st = ⟨out, [(32, .box (cellsTask t)), (176, .row 4 1 (b3.map tB))]⟩ → True := fun _ _ _ _ => trivial
        refine And.intro (by omega) (Exists.intro _ (And.intro (get_map hj) ?_))
        refine SpecP.mono (f63_spec t.acts[a].effs[j].lit hbig []) ?_
        rintro _ _ ⟨rfl, rfl⟩
        refine And.intro (fun h6 => ?_) fun h6 => ?_
        rotate_left
        · refine And.intro (by omega) (And.intro (by omega) ?_)
          refine Exists.intro (j + 1, b2, g2) (And.intro (by show t.acts[a].effs.length - (j + 1) < t.acts[a].effs.length - j; omega) (And.intro ⟨hj, hpre, skip fun hcnt => ?_⟩ (And.intro rfl rfl)))
          have : codeI t.acts[a].effs[j].lit = less := by simpa using h6
          simp only [cntR, this, ne_eq, not_true_eq_false, decide_false, Bool.and_false] at hcnt
          cases hcnt
        refine And.intro hc0 (And.intro (by rw [hb2] at hc1; exact hc1) (Exists.intro _ (And.intro hget ?_)))
        refine And.intro (fun h7 => ?_) fun h7 => ?_
        · refine And.intro (by omega) (And.intro (by omega) ?_)
          exact Exists.intro (j + 1, b2, g2) (And.intro (by show t.acts[a].effs.length - (j + 1) < t.acts[a].effs.length - j; omega) (And.intro ⟨hj, hpre, skip fun _ _ => h7⟩ (And.intro rfl rfl)))
        refine Exists.intro (b2.map tB) (And.intro (lend hb2) (And.intro (lend2 hb2) ?_))
        refine SpecP.mono (f28_spec false t.acts[a].effs[j].nil b2 t.acts[a].effs[j].when_ (fun x hx => (T.whn _ hmem _ hem x hx).inB hN hM.len) _) ?_
        rintro _ _ ⟨rfl, rfl⟩
        refine And.intro trivial (And.intro trivial ?_)
        refine And.intro (fun h8 => ?_) fun h8 => ?_
        rotate_left
        · refine And.intro (by omega) (And.intro (by omega) ?_)
          exact Exists.intro (j + 1, b2, g2) (And.intro (by show t.acts[a].effs.length - (j + 1) < t.acts[a].effs.length - j; omega) (And.intro ⟨hj, hpre, skip fun _ hw => by rw [h8] at hw; cases hw⟩ (And.intro rfl rfl)))
        have hcnt : cntR o less a t.acts[a].effs[j].lit = true := by
          have : codeI t.acts[a].effs[j].lit ≠ less := by simpa using h6
          simp only [cntR, hob, h3, this, ne_eq, not_false_eq_true, decide_true, Bool.not_false, Bool.and_self]
        have hrch : Rch t s (cntR o less) (codeI t.acts[a].effs[j].lit).toNat := .eff a _ _ hax hem hcnt (hM.sound.has hpre) (hM.sound.has h8)
        refine And.intro hc0 (And.intro (by rw [hb2] at hc1; exact hc1) (Exists.intro _ (And.intro hget (And.intro (Nat.le_refl 1) ?_))))
        refine And.intro (by omega) (And.intro (by omega) ?_)
        refine Exists.intro (j + 1, b2.set (codeI t.acts[a].effs[j].lit).toNat true, true) (And.intro (by show t.acts[a].effs.length - (j + 1) < t.acts[a].effs.length - j; omega) (And.intro ⟨hj, setHas_mono hpre, hM.set (by omega) h7 hrch⟩ (And.intro rfl ?_)))
        show (⟨out, [(32, .box (cellsTask t)), (176, .row 4 1 ((b2.map tB).set (0 + (codeI t.acts[a].effs[j].lit).toNat) (tB true)))]⟩ : St) = _
        rw [Nat.zero_add, map_set']
      · have hj : t.acts[a].effs.length ≤ j := ge_of_dec h5
        refine And.intro (by omega) (And.intro (by omega) ?_)
        refine Exists.intro (a + 1, b2, g2) (And.intro (by show t.acts.length - (a + 1) < t.acts.length - a; omega) (And.intro ⟨ha, ?_⟩ (And.intro rfl rfl)))
        refine hM.weak fun hg hbb hp a' ha' => ?_
        rcases Nat.lt_or_ge a' a with h | h
        · exact hp.1 a' h
        · rw [show a' = a by omega]
          intro x hx _ e he
          rw [hax] at hx; cases hx
          exact hp.2 e (by rw [List.take_of_length_le hj]; exact he)
    · have ha : a = t.acts.length := by have := ge_of_dec h2; omega
      refine Exists.intro (b1, g) (And.intro ?_ (And.intro ?_ (And.intro rfl rfl)))
      · show (if g = true then b1.count false + 1 else 0) < b.count false + 1
        cases g with
        | true => have := hM.yes rfl; simp; omega
        | false => simp
      · exact ⟨hM.len, hM.sound, hM.ini, fun _ => ⟨rfl, fun hg => by
          have hg : g = false := hg
          have h9 := hM.no hg
          show ∀ a, a < t.acts.length → Clo t (cntR o less) b1 a
          rw [h9.1, ← ha]; exact h9.2⟩, fun h => by cases h⟩

end Go.Fw

/- What the program's functions do, part 17: package mark's reach. -/
namespace Go.Fw
open Go Go.Proofs
set_option maxRecDepth 10000

abbrev dRows (d : List (List Bool)) : List GR := d.map fun r => GR.row (r.map tB)
structure Dn (t : Task) (b : List Bool) (d : List (List Bool)) : Prop where
  len : d.length = t.acts.length
  row : ∀ (a : Nat) (x : Actn) (r : List Bool), t.acts[a]? = some x → d[a]? = some r → r.length = x.effs.length
  don : ∀ (a : Nat) (x : Actn) (r : List Bool) (i : Nat) (e : Eff), t.acts[a]? = some x → d[a]? = some r → x.effs[i]? = some e → r[i]? = some true → bitAt b e.lit = true
theorem Dn.bit {t b d} (h : Dn t b d) (k : Nat) : Dn t (b.set k true) d := ⟨h.len, h.row, fun a x r i e h1 h2 h3 h4 => getD_set_true (h.don a x r i e h1 h2 h3 h4)⟩
theorem Dn.set {t b d} (h : Dn t b d) {a i : Nat} {x : Actn} {r : List Bool} {e : Eff} (hx : t.acts[a]? = some x) (hr : d[a]? = some r) (he : x.effs[i]? = some e) (hb : bitAt b e.lit = true) : Dn t b (d.set a (r.set i true)) := by
  have hal : a < d.length := (List.getElem?_eq_some_iff.1 hr).1
  refine ⟨by simp [h.len], fun a' x' r' hx' hr' => ?_, fun a' x' r' i' e' hx' hr' he' hi' => ?_⟩
  · rw [List.getElem?_set] at hr'
    split at hr'
    · rename_i haa
      subst haa
      cases hr'
      rw [List.length_set]
      exact h.row a x' r hx' hr
    · exact h.row a' x' r' hx' hr'
  · rw [List.getElem?_set] at hr'
    split at hr'
    · rename_i haa
      subst haa
      cases hr'
      rw [List.getElem?_set] at hi'
      split at hi'
      · rename_i hii
        subst hii
        rw [hx] at hx'; cases hx'
        rw [he] at he'; cases he'
        exact hb
      · exact h.don a x' r i' e' hx' hr he' hi'
    · exact h.don a' x' r' i' e' hx' hr' he' hi'

def kp58 : Kp := [(3, ([1, 2, 3, 7, 26, 27], [24, 184])), (8, ([2, 3, 7, 36, 37, 38], [24, 184])), (14, ([2, 3, 7, 11, 58, 59], [24, 184, 440])), (18, ([2, 3, 7, 11], [24, 184, 440])), (20, ([2, 3, 7, 11, 13, 75, 76, 77], [24, 184, 440])), (24, ([2, 3, 7, 11, 13, 14, 75, 76, 77, 88, 89, 90], [24, 184, 440]))]
theorem f58_spec (t : Task) (n1 : Bool) (s : List Int) (fc q : Nat) (cnt : Nat → Lit → Bool) (ht : isB t = true) (hs : risingB s t.facts.length = true) (out : List Fr)
    (hc : ∀ (fr : Fr) (a : Nat) (l : Lit), a < t.acts.length → litIn t.facts.length l → SpecP Try.prog fc [.int a, .lit l, .ptr (.fr 1 q) 0] (fr :: out) fun r ro => r = .bool (cnt a l) ∧ ro = []) :
    SpecP Try.prog 58 [.task t, .ints n1 s, .fn fc [(.fr 0 q, 0)]] out fun r ro => ∃ b, IsR t s cnt b ∧ r = .osl (.cur 184) 1 0 b.length ∧ ro = [(184, .row 4 1 (b.map tB))] := by
  refine spec_body cx_ok kp58 [] (fn := Try.f58) (by kernel_rfl) rfl (by kernel_rfl) rfl (by unfold FnOK; kernel_rfl) fun hok => ?_
  have TK := task_ok ht
  have hin := rising_in hs
  have hsl := rising_len hs (by have := TK.facts; omega)
  have hfl : (t.facts.map tS).length = t.facts.length := List.length_map ..
  have hal : (t.acts.map tAct).length = t.acts.length := List.length_map ..
  have hN := TK.facts
  have hA := TK.acts
  refine And.intro (by omega) (And.intro (by omega) ?_)
  refine And.intro rfl (And.intro (by omega) (And.intro (by show (2 * ((t.facts.map tS).length : Int)) * (1 : Nat) ≤ _; omega) (And.intro (by omega) ?_)))
  refine LoopW.mk (Nat × List Bool) (fun p => p.1 ≤ t.facts.length ∧ Odds t.facts.length p.1 p.2)
    (fun p => [(1, .ints n1 s), (2, .fn fc [(.fr 0 q, 0)]), (3, .ptr (.cur 24) 0), (7, .osl (.cur 184) 1 0 (2 * (t.facts.map tS).length)), (26, .int (t.facts.map tS).length), (27, .int p.1)])
    (fun p => ⟨out, [(24, .box (cellsTask t)), (184, .row 4 1 (p.2.map tB))]⟩) (fun p => t.facts.length - p.1) (0, List.replicate (2 * (t.facts.map tS).length) false) ⟨Nat.zero_le _, by rw [hfl]; exact Odds.zero _⟩ ⟨rfl, ?_⟩ ?_
  · show (⟨out, [(24, .box (cellsTask t)), (184, .row 4 1 (List.replicate (2 * (t.facts.map tS).length) (tB false)))]⟩ : St) = _
    rw [List.map_replicate]
  rintro ⟨i, b⟩ ⟨hi0, hH⟩
  simp only at hi0 hH
  refine And.intro (fun h1 => ?_) fun h1 => ?_
  · have hi : i < t.facts.length := lt_of_dec h1
    have hbl := hH.1
    have e1 : (2 * (i : Int) + 1).toNat = 2 * i + 1 := by omega
    have hget : (b.map tB)[0 + (2 * (i : Int) + 1).toNat]? = some (tB (b[2 * i + 1]'(by omega))) := by rw [e1, Nat.zero_add, List.getElem?_map, List.getElem?_eq_getElem (by omega)]; rfl
    refine And.intro (by omega) (And.intro (by omega) (And.intro (by omega) (And.intro (by omega) (And.intro (by omega) (And.intro (by omega) (Exists.intro _ (And.intro hget (And.intro (Nat.le_refl 1) ?_))))))))
    refine And.intro (by omega) (And.intro (by omega) ?_)
    refine Exists.intro (i + 1, b.set (2 * i + 1) true) (And.intro (by show t.facts.length - (i + 1) < t.facts.length - i; omega) (And.intro ⟨hi, hH.step hi⟩ (And.intro rfl ?_)))
    show (⟨out, [(24, .box (cellsTask t)), (184, .row 4 1 ((b.map tB).set (0 + (2 * (i : Int) + 1).toNat) (tB true)))]⟩ : St) = _
    rw [e1, Nat.zero_add, map_set']
  have hi : i = t.facts.length := by have := ge_of_dec h1; omega
  subst hi
  have hI := hH.ini
  clear hH h1 hi0
  refine LoopW.mk (Nat × List Bool) (fun p => p.1 ≤ s.length ∧ Ini t.facts.length (s.take p.1) p.2)
    (fun p => [(2, .fn fc [(.fr 0 q, 0)]), (3, .ptr (.cur 24) 0), (7, .osl (.cur 184) 1 0 (2 * (t.facts.map tS).length)), (36, .ints n1 s), (37, .int (s.map tI).length), (38, .int p.1)])
    (fun p => ⟨out, [(24, .box (cellsTask t)), (184, .row 4 1 (p.2.map tB))]⟩) (fun p => s.length - p.1) (0, b) ⟨Nat.zero_le _, hI⟩ ⟨rfl, rfl⟩ ?_
  clear hI
  clear b
  rintro ⟨i, b⟩ ⟨hi0, hH⟩
  simp only at hi0 hH
  refine And.intro (fun h1 => ?_) fun h1 => ?_
  · have hi : i < s.length := lt_of_dec h1
    have hbl := hH.1
    have hf0 := hin _ (List.getElem_mem hi)
    obtain ⟨f, hf⟩ : ∃ f : Nat, s[i] = (f : Int) := ⟨s[i].toNat, by omega⟩
    have hfn : f < t.facts.length := by omega
    have e1 : (2 * (f : Int) + 1).toNat = 2 * f + 1 := by omega
    have e2 : (2 * (f : Int)).toNat = 2 * f := by omega
    have hg2 : (b.map tB)[0 + (2 * (f : Int)).toNat]? = some (tB (b[2 * f]'(by omega))) := by rw [e2, Nat.zero_add, List.getElem?_map, List.getElem?_eq_getElem (by omega)]; rfl
    have hg1 : ((b.map tB).set (0 + (2 * (f : Int)).toNat) (tB true))[0 + (2 * (f : Int) + 1).toNat]? = some (tB (b[2 * f + 1]'(by omega))) := by
      rw [e1, e2, Nat.zero_add, Nat.zero_add, List.getElem?_set_ne (by omega), List.getElem?_map, List.getElem?_eq_getElem (by omega)]; rfl
    refine And.intro (by omega) (Exists.intro (tI f) (And.intro (by rw [← hf]; exact get_map hi) ?_))
    refine And.intro (by omega) (And.intro (by omega) (And.intro (by omega) (And.intro (by omega) (And.intro (by omega) (And.intro (by omega) ?_)))))
    refine And.intro (by omega) (And.intro (by omega) (Exists.intro _ (And.intro hg2 (And.intro (Nat.le_refl 1) ?_))))
    refine And.intro (by omega) (And.intro (by omega) (Exists.intro _ (And.intro hg1 (And.intro (Nat.le_refl 1) ?_))))
    refine And.intro (by omega) (And.intro (by omega) ?_)
    refine Exists.intro (i + 1, (b.set (2 * f) true).set (2 * f + 1) false) (And.intro (by show s.length - (i + 1) < s.length - i; omega) (And.intro ⟨hi, ?_⟩ (And.intro rfl ?_)))
    · have := hH.step hfn
      show Ini _ (s.take (i + 1)) _
      rw [List.take_add_one, List.getElem?_eq_getElem hi, hf]; exact this
    show (⟨out, [(24, .box (cellsTask t)), (184, .row 4 1 (((b.map tB).set (0 + (2 * (f : Int)).toNat) (tB true)).set (0 + (2 * (f : Int) + 1).toNat) (tB false)))]⟩ : St) = _
    rw [e1, e2, Nat.zero_add, Nat.zero_add, map_set', map_set']
  have hi : i = s.length := by have := ge_of_dec h1; omega
  subst hi
  rw [List.take_length] at hH
  have hIni := hH
  have hI := hH
  clear hH h1 hi0
  refine And.intro rfl (And.intro (by omega) (And.intro (by show ((t.acts.map tAct).length : Int) * (24 : Nat) ≤ _; omega) (And.intro (by omega) ?_)))
  refine LoopW.mk (Nat × List GR) (fun p => p.1 ≤ t.acts.length ∧ p.2.length = t.acts.length ∧ ∀ (a : Nat) (x : Actn), a < p.1 → t.acts[a]? = some x → p.2[a]? = some (GR.row ((List.replicate x.effs.length false).map tB)))
    (fun p => [(2, .fn fc [(.fr 0 q, 0)]), (3, .ptr (.cur 24) 0), (7, .osl (.cur 184) 1 0 (2 * (t.facts.map tS).length)), (11, .osl (.cur 440) 1 0 (t.acts.map tAct).length), (58, .int (t.acts.map tAct).length), (59, .int p.1)])
    (fun p => ⟨out, [(24, .box (cellsTask t)), (184, .row 4 1 (b.map tB)), (440, .grid 56 4 1 p.2)]⟩) (fun p => t.acts.length - p.1) (0, List.replicate (t.acts.map tAct).length GR.nil) ⟨Nat.zero_le _, by simp, fun a x h => by simp at h⟩ ⟨rfl, rfl⟩ ?_
  clear hI
  have hI : Mid t s cnt b b false True := ⟨hIni.1, hIni.sound, fun k hk h => by rw [hIni.2 k hk]; exact h, fun _ => ⟨rfl, trivial⟩, fun h => by cases h⟩
  clear hIni
  rintro ⟨i, rs⟩ ⟨hi0, hrl, hrs⟩
  simp only at hi0 hrl hrs
  refine And.intro (fun h1 => ?_) fun h1 => ?_
  · have hi : i < t.acts.length := lt_of_dec h1
    have hE := TK.effs _ (List.getElem_mem hi)
    have hel : (t.acts[i].effs.map tEff).length = t.acts[i].effs.length := List.length_map ..
    refine And.intro (by omega) (Exists.intro _ (And.intro (get_map hi) ?_))
    refine And.intro rfl (And.intro (by omega) (And.intro (by show ((t.acts[i].effs.map tEff).length : Int) * (1 : Nat) ≤ _; omega) (And.intro (by omega) ?_)))
    refine And.intro (by omega) (And.intro (by omega) ?_)
    refine And.intro (by simp) (And.intro (by show 0 + ((i : Int)).toNat < rs.length; omega) ?_)
    refine And.intro (by omega) (And.intro (by omega) ?_)
    refine Exists.intro (i + 1, rs.set i (GR.row ((List.replicate t.acts[i].effs.length false).map tB))) (And.intro (by show t.acts.length - (i + 1) < t.acts.length - i; omega) (And.intro ⟨hi, by simp [hrl], fun a x ha hx => ?_⟩ (And.intro rfl ?_)))
    · have ha : a < i + 1 := ha
      show (rs.set i _)[a]? = _
      rw [List.getElem?_set]
      by_cases hai : i = a
      · subst hai
        rw [List.getElem?_eq_getElem hi] at hx
        cases hx
        rw [if_pos rfl, if_pos (by omega)]
      · rw [if_neg hai]; exact hrs a x (by omega) hx
    show (⟨out, [(24, .box (cellsTask t)), (184, .row 4 1 (b.map tB)), (440, .grid 56 4 1 (rs.set (0 + ((i : Int)).toNat) (GR.row (List.replicate (t.acts[i].effs.map tEff).length (tB false)))))]⟩ : St) = _
    rw [Nat.zero_add, Int.toNat_natCast, List.map_replicate, hel]
  have hi : i = t.acts.length := by have := ge_of_dec h1; omega
  subst hi
  obtain ⟨d, hd, hdn⟩ : ∃ d : List (List Bool), rs = dRows d ∧ Dn t b d := by
    refine ⟨t.acts.map fun x => List.replicate x.effs.length false, ?_, by simp, fun a x r hx hr => ?_, fun a x r i e hx hr he hi => ?_⟩
    · refine List.ext_getElem? fun a => ?_
      rcases Nat.lt_or_ge a t.acts.length with ha | ha
      · rw [hrs a _ ha (List.getElem?_eq_getElem ha)]
        simp [dRows, ha]
      · rw [List.getElem?_eq_none (by omega), List.getElem?_eq_none (by simp [dRows]; omega)]
    · rw [List.getElem?_map, hx] at hr; cases hr; simp
    · rw [List.getElem?_map, hx] at hr; cases hr
      rw [List.getElem?_replicate] at hi
      split at hi <;> cases hi
  subst hd
  clear hrl hrs h1 hi0
  refine LoopW.mk (List Bool × List (List Bool)) (fun p => Mid t s cnt p.1 p.1 false True ∧ Dn t p.1 p.2)
    (fun p => [(2, .fn fc [(.fr 0 q, 0)]), (3, .ptr (.cur 24) 0), (7, .osl (.cur 184) 1 0 (2 * (t.facts.map tS).length)), (11, .osl (.cur 440) 1 0 (t.acts.map tAct).length)])
    (fun p => ⟨out, [(24, .box (cellsTask t)), (184, .row 4 1 (p.1.map tB)), (440, .grid 56 4 1 (dRows p.2))]⟩) (fun p => p.1.count false) (b, d) ⟨hI, hdn⟩ ⟨rfl, rfl⟩ ?_
  clear hI hdn
  clear b d
  rintro ⟨b, d⟩ ⟨hM0, hD0⟩
  simp only at hM0 hD0
  refine LoopW.mk (Nat × List Bool × List (List Bool) × Bool) (fun p => p.1 ≤ t.acts.length ∧ Mid t s cnt b p.2.1 p.2.2.2 (∀ a, a < p.1 → Clo t cnt b a) ∧ Dn t p.2.1 p.2.2.1)
    (fun p => [(2, .fn fc [(.fr 0 q, 0)]), (3, .ptr (.cur 24) 0), (7, .osl (.cur 184) 1 0 (2 * (t.facts.map tS).length)), (11, .osl (.cur 440) 1 0 (t.acts.map tAct).length), (13, .bool p.2.2.2), (75, .t (.sl t.an 4 (t.acts.map tAct))), (76, .int (t.acts.map tAct).length), (77, .int p.1)])
    (fun p => ⟨out, [(24, .box (cellsTask t)), (184, .row 4 1 (p.2.1.map tB)), (440, .grid 56 4 1 (dRows p.2.2.1))]⟩) (fun p => t.acts.length - p.1) (0, b, d, false) ⟨Nat.zero_le _, hM0.weak fun _ _ _ a ha => by simp at ha, hD0⟩ ⟨rfl, rfl⟩ ?_
  rintro ⟨a, b1, d1, g⟩ ⟨ha0, hM, hD⟩
  simp only at ha0 hM hD
  have hb1 : b1.length = 2 * (t.facts.map tS).length := by rw [hM.len, hfl]
  refine And.intro (fun h2 => ?_) fun h2 => ?_
  · have ha : a < t.acts.length := lt_of_dec h2
    have hax : t.acts[a]? = some t.acts[a] := List.getElem?_eq_getElem ha
    have hmem : t.acts[a] ∈ t.acts := List.getElem_mem ha
    refine And.intro (by omega) (Exists.intro _ (And.intro (get_map ha) ?_))
    refine Exists.intro (b1.map tB) (And.intro (lend hb1) (And.intro (lend2 hb1) ?_))
    refine SpecP.mono (f57_spec false t.acts[a].pn b1 t.acts[a].pre (fun x hx => (TK.pre _ hmem x hx).inB hN hM.len) _) ?_
    rintro _ _ ⟨rfl, rfl⟩
    refine And.intro trivial (And.intro trivial ?_)
    refine And.intro (fun h4 => ?_) fun h4 => ?_
    rotate_left
    · refine And.intro (by omega) (And.intro (by omega) ?_)
      refine Exists.intro (a + 1, b1, d1, g) (And.intro (by show t.acts.length - (a + 1) < t.acts.length - a; omega) (And.intro ⟨ha, ?_, hD⟩ (And.intro rfl rfl)))
      refine hM.weak fun hg hbb hp a' ha' => ?_
      rcases Nat.lt_or_ge a' a with h | h
      · exact hp a' h
      · rw [show a' = a by omega]
        intro x hx hpre
        rw [hax] at hx; cases hx
        rw [← hbb, h4] at hpre; cases hpre
    have hE := TK.effs _ hmem
    refine LoopW.mk (Nat × List Bool × List (List Bool) × Bool) (fun p => p.1 ≤ t.acts[a].effs.length ∧ setHas p.2.1 t.acts[a].pre = true ∧ Mid t s cnt b p.2.1 p.2.2.2 ((∀ a', a' < a → Clo t cnt b a') ∧ ∀ e ∈ t.acts[a].effs.take p.1, CloE cnt b a e) ∧ Dn t p.2.1 p.2.2.1)
      (fun p => [(2, .fn fc [(.fr 0 q, 0)]), (3, .ptr (.cur 24) 0), (7, .osl (.cur 184) 1 0 (2 * (t.facts.map tS).length)), (11, .osl (.cur 440) 1 0 (t.acts.map tAct).length), (13, .bool p.2.2.2), (14, .int a), (75, .t (.sl t.an 4 (t.acts.map tAct))), (76, .int (t.acts.map tAct).length), (77, .int a), (88, .t (.sl t.acts[a].en 3 (t.acts[a].effs.map tEff))), (89, .int (t.acts[a].effs.map tEff).length), (90, .int p.1)])
      (fun p => ⟨out, [(24, .box (cellsTask t)), (184, .row 4 1 (p.2.1.map tB)), (440, .grid 56 4 1 (dRows p.2.2.1))]⟩) (fun p => t.acts[a].effs.length - p.1) (0, b1, d1, g) ⟨Nat.zero_le _, h4, hM.weak fun _ _ hp => ⟨hp, fun e he => by simp at he⟩, hD⟩ ⟨rfl, rfl⟩ ?_
    clear hM hb1 h4 h2 ha0 hD
    rintro ⟨j, b2, d2, g2⟩ ⟨hj0, hpre, hM, hD⟩
    simp only at hj0 hpre hM hD
    have hb2 : b2.length = 2 * (t.facts.map tS).length := by rw [hM.len, hfl]
    refine And.intro (fun h5 => ?_) fun h5 => ?_
    · have hj : j < t.acts[a].effs.length := lt_of_dec h5
      have hem : t.acts[a].effs[j] ∈ t.acts[a].effs := List.getElem_mem hj
      have hex : t.acts[a].effs[j]? = some t.acts[a].effs[j] := List.getElem?_eq_getElem hj
      have hil := TK.lit _ hmem _ hem
      have hib : inB b2 t.acts[a].effs[j].lit := hil.inB hN hM.len
      obtain ⟨hbig, hc0, hc1⟩ := hib
      have hc2 : codeI t.acts[a].effs[j].lit < (2 * (t.facts.map tS).length : Nat) := by rw [hb2] at hc1; exact hc1
      have hget : (b2.map tB)[0 + (codeI t.acts[a].effs[j].lit).toNat]? = some (tB (bitAt b2 t.acts[a].effs[j].lit)) := by rw [Nat.zero_add]; exact bit_get ⟨hbig, hc0, hc1⟩
      have had : a < d2.length := by rw [hD.len]; exact ha
      have hdx : d2[a]? = some d2[a] := List.getElem?_eq_getElem had
      have hrl : d2[a].length = t.acts[a].effs.length := hD.row a _ _ hax hdx
      have hrow : (dRows d2)[0 + ((a : Int)).toNat]? = some (GR.row (d2[a].map tB)) := by rw [Nat.zero_add, Int.toNat_natCast, List.getElem?_map, hdx]; rfl
      have hrow2 : (dRows d2)[a]? = some (GR.row (d2[a].map tB)) := by rw [List.getElem?_map, hdx]; rfl
      have hcell : (d2[a].map tB)[0 + ((j : Int)).toNat]? = some (tB (d2[a][j]'(by omega))) := by rw [Nat.zero_add, Int.toNat_natCast, List.getElem?_map, List.getElem?_eq_getElem (by omega)]; rfl
      have skip : CloE cnt b2 a t.acts[a].effs[j] → Mid t s cnt b b2 g2 ((∀ a', a' < a → Clo t cnt b a') ∧ ∀ e ∈ t.acts[a].effs.take (j + 1), CloE cnt b a e) := fun hc => hM.weak fun hg hbb hp => ⟨hp.1, fun e he => by
        rw [List.take_add_one, List.getElem?_eq_getElem hj] at he
        rcases List.mem_append.1 he with he | he
        · exact hp.2 e he
        · simp at he; rw [he, ← hbb]; exact hc⟩
      refine And.intro (by omega) (Exists.intro _ (And.intro (get_map hj) ?_))
      have hjl : (j : Int) < ((d2[a].map tB).length : Nat) := by simp [hrl]; omega
      have hal2 : (a : Int) < (t.acts.map tAct).length := by rw [hal]; omega
      refine And.intro (by omega) (And.intro hal2 (Exists.intro _ (And.intro hrow ?_)))
      refine And.intro (by omega) (And.intro hjl (Exists.intro _ (And.intro hrow (Exists.intro _ (And.intro hcell ?_)))))
      refine And.intro (fun h6 => ?_) fun h6 => ?_
      · -- it is done
        have hbit : bitAt b2 t.acts[a].effs[j].lit = true := hD.don a _ _ j _ hax hdx hex (by rw [List.getElem?_eq_getElem (by omega), h6])
        refine And.intro (by omega) (And.intro (by omega) ?_)
        exact Exists.intro (j + 1, b2, d2, g2) (And.intro (by show t.acts[a].effs.length - (j + 1) < t.acts[a].effs.length - j; omega) (And.intro ⟨hj, hpre, skip fun _ _ => hbit, hD⟩ (And.intro rfl rfl)))
      refine SpecP.mono (hc _ a t.acts[a].effs[j].lit ha hil) ?_
      rintro _ _ ⟨rfl, rfl⟩
      refine And.intro trivial (And.intro trivial ?_)
      refine And.intro (fun h7 => ?_) fun h7 => ?_
      rotate_left
      · refine And.intro (by omega) (And.intro (by omega) ?_)
        exact Exists.intro (j + 1, b2, d2, g2) (And.intro (by show t.acts[a].effs.length - (j + 1) < t.acts[a].effs.length - j; omega) (And.intro ⟨hj, hpre, skip fun hcnt => (by rw [h7] at hcnt; cases hcnt), hD⟩ (And.intro rfl rfl)))
      refine Exists.intro (b2.map tB) (And.intro (lend hb2) (And.intro (lend2 hb2) ?_))
      refine SpecP.mono (f57_spec false t.acts[a].effs[j].nil b2 t.acts[a].effs[j].when_ (fun x hx => (TK.whn _ hmem _ hem x hx).inB hN hM.len) _) ?_
      rintro _ _ ⟨rfl, rfl⟩
      refine And.intro trivial (And.intro trivial ?_)
      refine And.intro (fun h8 => ?_) fun h8 => ?_
      rotate_left
      · refine And.intro (by omega) (And.intro (by omega) ?_)
        exact Exists.intro (j + 1, b2, d2, g2) (And.intro (by show t.acts[a].effs.length - (j + 1) < t.acts[a].effs.length - j; omega) (And.intro ⟨hj, hpre, skip fun _ hw => (by rw [h8] at hw; cases hw), hD⟩ (And.intro rfl rfl)))
      have hrch : Rch t s cnt (codeI t.acts[a].effs[j].lit).toNat := .eff a _ _ hax hem h7 (hM.sound.has hpre) (hM.sound.has h8)
      refine And.intro (by omega) (And.intro hal2 (Exists.intro _ (And.intro hrow ?_)))
      refine And.intro (by omega) (And.intro hjl (Exists.intro _ (Exists.intro _ (And.intro hrow (And.intro hcell (And.intro (Nat.le_refl 1) ?_))))))
      have hrs : (dRows d2).set (0 + ((a : Int)).toNat) (GR.row ((d2[a].map tB).set (0 + ((j : Int)).toNat) (tB true))) = dRows (d2.set a (d2[a].set j true)) := by
        rw [Nat.zero_add, Nat.zero_add, Int.toNat_natCast, Int.toNat_natCast, map_set']
        exact (List.map_set (f := fun r : List Bool => GR.row (r.map tB))).symm
      refine SpecP.mono (f68_spec t.acts[a].effs[j].lit hbig []) ?_
      rintro _ _ ⟨rfl, rfl⟩
      refine And.intro hc0 (And.intro hc2 (Exists.intro _ (And.intro hget ?_)))
      refine And.intro (fun h9 => ?_) fun h9 => ?_
      · refine And.intro (by omega) (And.intro (by omega) ?_)
        refine Exists.intro (j + 1, b2, d2.set a (d2[a].set j true), g2) (And.intro (by show t.acts[a].effs.length - (j + 1) < t.acts[a].effs.length - j; omega) (And.intro ⟨hj, hpre, skip fun _ _ => h9, hD.set hax hdx hex h9⟩ (And.intro rfl ?_)))
        show (⟨out, [(24, .box (cellsTask t)), (184, .row 4 1 (b2.map tB)), (440, .grid 56 4 1 ((dRows d2).set (0 + ((a : Int)).toNat) (GR.row ((d2[a].map tB).set (0 + ((j : Int)).toNat) (tB true)))))]⟩ : St) = _
        rw [hrs]
      · refine And.intro hc0 (And.intro hc2 (Exists.intro _ (And.intro hget (And.intro (Nat.le_refl 1) ?_))))
        refine And.intro (by omega) (And.intro (by omega) ?_)
        have hbs : bitAt (b2.set (codeI t.acts[a].effs[j].lit).toNat true) t.acts[a].effs[j].lit = true := by
          unfold bitAt; rw [getD_set (by omega), if_pos rfl]
        refine Exists.intro (j + 1, b2.set (codeI t.acts[a].effs[j].lit).toNat true, d2.set a (d2[a].set j true), true) (And.intro (by show t.acts[a].effs.length - (j + 1) < t.acts[a].effs.length - j; omega) (And.intro ⟨hj, setHas_mono hpre, hM.set (by omega) h9 hrch, (hD.bit _).set hax hdx hex hbs⟩ (And.intro rfl ?_)))
        show (⟨out, [(24, .box (cellsTask t)), (184, .row 4 1 ((b2.map tB).set (0 + (codeI t.acts[a].effs[j].lit).toNat) (tB true))), (440, .grid 56 4 1 ((dRows d2).set (0 + ((a : Int)).toNat) (GR.row ((d2[a].map tB).set (0 + ((j : Int)).toNat) (tB true)))))]⟩ : St) = _
        rw [hrs, Nat.zero_add, map_set']
    · have hj : t.acts[a].effs.length ≤ j := ge_of_dec h5
      refine And.intro (by omega) (And.intro (by omega) ?_)
      refine Exists.intro (a + 1, b2, d2, g2) (And.intro (by show t.acts.length - (a + 1) < t.acts.length - a; omega) (And.intro ⟨ha, ?_, hD⟩ (And.intro rfl rfl)))
      refine hM.weak fun hg hbb hp a' ha' => ?_
      rcases Nat.lt_or_ge a' a with h | h
      · exact hp.1 a' h
      · rw [show a' = a by omega]
        intro x hx _ e he
        rw [hax] at hx; cases hx
        exact hp.2 e (by rw [List.take_of_length_le hj]; exact he)
  · have ha : a = t.acts.length := by have := ge_of_dec h2; omega
    cases g with
    | true =>
      refine Exists.intro (b1, d1) (And.intro (hM.yes rfl) (And.intro ⟨⟨hM.len, hM.sound, hM.ini, fun _ => ⟨rfl, trivial⟩, fun h => by cases h⟩, hD⟩ (And.intro rfl rfl)))
    | false =>
      refine Exists.intro [184] ⟨b1, isR_of hM.len hM.sound hM.ini (by rw [(hM.no rfl).1, ← ha]; exact (hM.no rfl).2), ?_, rfl⟩
      show LV.osl (.cur 184) 1 0 (2 * (t.facts.map tS).length) = _
      rw [hb1]

end Go.Fw

/- What the program's functions do, part 18: without, and what asks whether the goal is reached. -/
namespace Go.Fw
open Go Go.Proofs
set_option maxRecDepth 10000

/-- Are these literals reached? -/
noncomputable def allR (t : Task) (s : List Int) (cnt : Nat → Lit → Bool) (l : List Lit) : Bool := @decide (∀ x ∈ l, Rch t s cnt (codeI x).toNat) (Classical.propDecidable _)
theorem allR_iff {t s cnt l} : allR t s cnt l = true ↔ ∀ x ∈ l, Rch t s cnt (codeI x).toNat := by
  unfold allR; exact @decide_eq_true_iff _ (Classical.propDecidable _)
theorem flat_bools {e sz : Nat} {b : List Bool} : (Ob.row e sz (b.map tB)).flat := by
  intro el hel x hx
  obtain ⟨y, _, rfl⟩ := List.mem_map.1 hel
  simp [tB] at hx; subst hx; trivial
theorem flat_ints {e sz : Nat} {b : List Int} : (Ob.row e sz (b.map tI)).flat := by
  intro el hel x hx
  obtain ⟨y, _, rfl⟩ := List.mem_map.1 hel
  simp [tI] at hx; subst hx; trivial
theorem flat_lits {e sz : Nat} {b : List Lit} : (Ob.row e sz (b.map tLit)).flat := by
  intro el hel x hx
  obtain ⟨y, _, rfl⟩ := List.mem_map.1 hel
  simp [tLit] at hx; rcases hx with rfl | rfl <;> trivial
theorem IsR.all {t s cnt b} (h : IsR t s cnt b) (l : List Lit) : setHas b l = allR t s cnt l := by
  rw [Bool.eq_iff_iff, allR_iff, setHas, List.all_eq_true]
  exact ⟨fun hh x hx => (h.iff _).1 (hh x hx), fun hh x hx => (h.iff _).2 (hh x hx)⟩
theorem allR_congr {t s l} {cnt cnt' : Nat → Lit → Bool} (hc : ∀ a x e, t.acts[a]? = some x → e ∈ x.effs → cnt a e.lit = cnt' a e.lit) : allR t s cnt l = allR t s cnt' l := by
  rw [Bool.eq_iff_iff, allR_iff, allR_iff]
  exact ⟨fun h x hx => (h x hx).congr hc, fun h x hx => (h x hx).congr fun a x e hx he => (hc a x e hx he).symm⟩

/-! ### Sets of numbers -/
def kvI (l : List Int) : List (Value × T) := l.map fun x => (.int .i64 x, .v (.bool true))
theorem look_kvI (x : Int) : ∀ l : List Int, lookKV (.int .i64 x) (.v (.bool false)) (kvI l) = .v (.bool (hasB l x))
  | [] => rfl
  | y :: r => by
    have ih := look_kvI x r
    simp only [kvI, List.map_cons, lookKV, hasB, List.any_cons] at ih ⊢
    by_cases h : x = y
    · rw [if_pos (show sameK (.int .i64 x) (.int .i64 y) = true by simp [sameK, h])]
      simp [h]
    · have h2 : (y == x) = false := by simpa using fun hh => h hh.symm
      rw [if_neg (show ¬ sameK (.int .i64 x) (.int .i64 y) = true by simpa [sameK] using h), ih, h2, Bool.false_or]
theorem upd_kvI (x : Int) : ∀ l : List Int, ∃ m, updKV (.int .i64 x) (.v (.bool true)) (kvI l) = kvI m ∧ ∀ y, hasB m y = (hasB l y || x == y)
  | [] => ⟨[x], rfl, fun y => by simp [hasB]⟩
  | z :: r => by
    by_cases h : x = z
    · refine ⟨z :: r, ?_, fun y => ?_⟩
      · simp only [kvI, List.map_cons, updKV]
        rw [if_pos (show sameK (.int .i64 x) (.int .i64 z) = true by simp [sameK, h]), h]
      · subst h
        simp only [hasB, List.any_cons]
        cases hxy : x == y <;> simp
    · obtain ⟨m, h1, h2⟩ := upd_kvI x r
      refine ⟨z :: m, ?_, fun y => ?_⟩
      · simp only [kvI, List.map_cons, updKV] at h1 ⊢
        rw [if_neg (show ¬ sameK (.int .i64 x) (.int .i64 z) = true by simpa [sameK] using h), h1]
      · have := h2 y
        simp only [hasB, List.any_cons] at this ⊢
        rw [this, Bool.or_assoc]

theorem f90_spec (a : Int) (x : Lit) (m : List Int) (t : Task) (fr : Fr) (out : List Fr) :
    SpecP Try.prog 90 [.int a, .lit x, .ptr (.fr 1 56) 0] (fr :: [(24, .box (cellsTask t)), (80, .mp (.int .i64) (kvI m)), (56, .box [.mpr (.cur 80)])] :: out) fun r ro => r = .bool (!hasB m a) ∧ ro = [] := by
  refine spec_body cx_ok [] [] (fn := Try.f90) (by kernel_rfl) rfl (by kernel_rfl) rfl (by unfold FnOK; kernel_rfl) fun hok => ?_
  refine Exists.intro _ (And.intro rfl ?_)
  refine Exists.intro _ (And.intro rfl ?_)
  refine Exists.intro _ (And.intro (look_kvI _ _) ?_)
  refine And.intro (fun h => ?_) fun h => ?_
  · exact Exists.intro [] (ret_bool (congrArg not h) rfl)
  · exact Exists.intro [] (ret_bool (congrArg not h) rfl)

def cntO (l : List Int) (a : Nat) (_ : Lit) : Bool := !hasB l a
def kp60 : Kp := [(3, ([1, 3, 7, 11, 12, 13], [24, 80, 56]))]
theorem f60_spec (t : Task) (n1 n2 : Bool) (s l : List Int) (ht : isB t = true) (hs : risingB s t.facts.length = true) (out : List Fr) :
    SpecP Try.prog 60 [.task t, .ints n1 s, .ints n2 l] out fun r ro => ∃ b, IsR t s (cntO l) b ∧ r = .osl (.cur 185000739) 1 0 b.length ∧ ro = [(185000739, .row 4 1 (b.map tB))] := by
  refine spec_body cx_ok kp60 [] (fn := Try.f60) (by kernel_rfl) rfl (by kernel_rfl) rfl (by unfold FnOK; kernel_rfl) fun hok => ?_
  have hmx := le_max hok.2.2.1.1
  refine LoopW.mk (Nat × List Int) (fun p => p.1 ≤ l.length ∧ ∀ x, hasB p.2 x = hasB (l.take p.1) x) (fun p => [(1, .ints n1 s), (3, .ptr (.cur 24) 0), (7, .ptr (.cur 56) 0), (11, .ints n2 l), (12, .int (l.map tI).length), (13, .int p.1)])
    (fun p => ⟨out, [(24, .box (cellsTask t)), (80, .mp (.int .i64) (kvI p.2)), (56, .box [.mpr (.cur 80)])]⟩) (fun p => l.length - p.1) (0, []) ⟨Nat.zero_le _, fun x => rfl⟩ ⟨rfl, rfl⟩ ?_
  rintro ⟨i, m⟩ ⟨hi0, hm⟩
  simp only at hi0 hm
  refine And.intro (fun h1 => ?_) fun h1 => ?_
  · have hi : i < l.length := lt_of_dec h1
    refine And.intro (by omega) (Exists.intro _ (And.intro (get_map hi) ?_))
    obtain ⟨m', h2, h3⟩ := upd_kvI l[i] m
    refine And.intro (by omega) (And.intro (by omega) ?_)
    refine Exists.intro (i + 1, m') (And.intro (by show l.length - (i + 1) < l.length - i; omega) (And.intro ⟨hi, fun x => ?_⟩ (And.intro rfl ?_)))
    · show hasB m' x = hasB (l.take (i + 1)) x
      rw [h3, hm, List.take_add_one, List.getElem?_eq_getElem hi, Option.toList_some, hasB_snoc]
    · show (⟨out, [(24, .box (cellsTask t)), (80, .mp (.int .i64) (updKV (.int .i64 l[i]) (.v (.bool true)) (kvI m))), (56, .box [.mpr (.cur 80)])]⟩ : St) = _
      rw [h2]
  · have hi : l.length ≤ i := ge_of_dec h1
    rw [List.take_of_length_le hi] at hm
    refine SpecP.mono (f58_spec t n1 s 90 56 (fun a _ => !hasB m a) ht hs _ fun fr a x ha _ => f90_spec a x m t fr out) ?_
    rintro _ _ ⟨b, hb, rfl, rfl⟩
    refine And.intro trivial (And.intro ?_ ?_)
    · exact ⟨flat_bools, trivial⟩
    exact Exists.intro [185000739] ⟨b, hb.congr fun a x e _ _ => by simp only [cntO, hm], rfl, rfl⟩

theorem f59_spec (a : Int) (x y : Lit) (fr fr1 : Fr) (out : List Fr) (hg : look fr1 72 = some (.box [.t (.v (.int .i64 y.fact)), .t (.v (.bool y.neg))])) :
    SpecP Try.prog 59 [.int a, .lit x, .ptr (.fr 1 72) 0] (fr :: fr1 :: out) fun r ro => r = .bool (decide (x ≠ y)) ∧ ro = [] := by
  refine spec_body cx_ok [] [] (fn := Try.f59) (by kernel_rfl) rfl (by kernel_rfl) rfl (by unfold FnOK; kernel_rfl) fun hok => ?_
  refine Exists.intro (.box [.t (.v (.int .i64 y.fact)), .t (.v (.bool y.neg))]) (And.intro (by simp only [St.get, List.getElem?_cons_succ, List.getElem?_cons_zero, hg]; rfl) ?_)
  have e : decide (x ≠ y) = !(x.fact == y.fact && (x.neg == y.neg && true)) := by
    rw [Bool.and_true]
    by_cases h : x = y
    · subst h; simp
    · have : (x.fact == y.fact && x.neg == y.neg) = false := by
        cases h1 : (x.fact == y.fact) <;> cases h2 : (x.neg == y.neg) <;> try rfl
        exact absurd (by cases x; cases y; simp at h1 h2; simp [h1, h2]) h
      simp [this, h]
  refine And.intro (fun h => ?_) fun h => ?_
  · exact Exists.intro [] (ret_bool (e.trans h) rfl)
  · exact Exists.intro [] (ret_bool (e.trans h) rfl)

end Go.Fw

/- What the program's functions do, part 19: package mark's Actions. -/
namespace Go.Fw
open Go Go.Proofs
set_option maxRecDepth 10000

def selI (n : Nat) (p : Nat → Bool) : List Int := ((List.range n).filter p).map fun (k : Nat) => (k : Int)
theorem selI_step (n : Nat) (p : Nat → Bool) : selI (n + 1) p = selI n p ++ if p n then [(n : Int)] else [] := by
  rw [selI, List.range_succ, List.filter_append, List.map_append, selI]
  cases h : p n <;> simp [h]
theorem selI_len (n : Nat) (p : Nat → Bool) : (selI n p).length ≤ n := by
  rw [selI, List.length_map]
  exact Nat.le_trans (List.length_filter_le ..) (by simp)
theorem selI_congr {n : Nat} {p q : Nat → Bool} (h : ∀ k, k < n → p k = q k) : selI n p = selI n q := by
  induction n with
  | zero => rfl
  | succ n ih => rw [selI_step, selI_step, ih fun k hk => h k (by omega), h n (by omega)]

/-- The actions without which the goal is not reached. -/
noncomputable def onlyA (t : Task) (s : List Int) (a : Nat) : Bool := !allR t s (cntO [(a : Int)]) t.goal

def od16 : Od := [(8, [(0, .pure), (1, .pure), (2, .pure), (5, .pure), (6, .pure), (3, .eff), (4, .eff), (7, .eff), (8, .pure)])]
def kp16 : Kp := [(6, ([1, 2, 7, 17, 18], [16, 264]))]
theorem f16_spec (t : Task) (n1 : Bool) (s : List Int) (out : List Fr) :
    SpecP Try.prog 16 [.task t, .ints n1 s] out fun r ro => (fineI t s ≠ 0 ∧ r = .tup [.t (.sl true 0 []), .int (fineI t s)] ∧ ro = []) ∨
      (fineI t s = 0 ∧ r = .tup [accV 264 1 ((selI t.acts.length (onlyA t s)).map tI), .int 0] ∧ ro = accO 264 3 1 ((selI t.acts.length (onlyA t s)).map tI)) := by
  refine spec_body cx_ok kp16 od16 (fn := Try.f16) (by kernel_rfl) rfl (by kernel_rfl) rfl (by unfold FnOK; kernel_rfl) fun hok => ?_
  refine SpecP.mono (f54_spec t n1 s []) ?_
  rintro _ _ ⟨rfl, rfl⟩
  refine And.intro (fun h0 => ?_) fun h0 => ?_
  · exact Exists.intro [] (.inl ⟨by simpa using h0, rfl, rfl⟩)
  have h0 : fineI t s = 0 := by simpa using h0
  have hts : isB t = true ∧ risingB s t.facts.length = true := by
    unfold fineI at h0
    cases h1 : isB t <;> cases h2 : risingB s t.facts.length <;> simp [h1, h2] at h0
    exact ⟨rfl, rfl⟩
  obtain ⟨ht, hs⟩ := hts
  have TK := task_ok ht
  have hN := TK.facts
  have hA := TK.acts
  have hal : (t.acts.map tAct).length = t.acts.length := List.length_map ..
  refine LoopW.mk (Nat × List Int) (fun p => p.1 ≤ t.acts.length ∧ p.2 = selI p.1 (onlyA t s)) (fun p => [(1, .ints n1 s), (2, .ptr (.cur 16) 0), (7, accV 264 1 (p.2.map tI)), (17, .int (t.acts.map tAct).length), (18, .int p.1)])
    (fun p => ⟨out, (16, .box (cellsTask t)) :: accO 264 3 1 (p.2.map tI)⟩) (fun p => t.acts.length - p.1) (0, []) ⟨Nat.zero_le _, rfl⟩ ⟨rfl, rfl⟩ ?_
  rintro ⟨i, acc⟩ ⟨hi0, hacc⟩
  simp only at hi0 hacc
  cases acc with
  | nil =>
    refine And.intro (fun h1 => ?_) fun h1 => ?_
    · have hi : i < t.acts.length := lt_of_dec h1
      have hst := selI_step i (onlyA t s)
      refine Exists.intro [tI i] (And.intro rfl (And.intro (Nat.le_refl 1) ?_))
      refine SpecP.mono (f60_spec t n1 false s [(i : Int)] ht hs _) ?_
      rintro _ _ ⟨b, hb, rfl, rfl⟩
      refine And.intro trivial (And.intro ⟨flat_bools, trivial⟩ ?_)
      refine And.intro ⟨rfl, rfl, rfl⟩ ?_
      refine Exists.intro (b.map tB) (And.intro (lend rfl) (And.intro (lend2 rfl) ?_))
      refine SpecP.mono (f57_spec false t.gn b t.goal (fun x hx => (TK.goal x hx).inB hN hb.len) _) ?_
      rintro _ _ ⟨rfl, rfl⟩
      refine And.intro trivial (And.intro trivial (And.intro ⟨rfl, rfl, rfl⟩ ?_))
      rw [hb.all]
      refine And.intro (fun h2 => ?_) fun h2 => ?_
      · have h3 : onlyA t s i = false := congrArg not h2
        refine And.intro (by omega) (And.intro (by omega) ?_)
        exact Exists.intro (i + 1, []) (And.intro (by show t.acts.length - (i + 1) < t.acts.length - i; omega) (And.intro ⟨hi, by show [] = _; rw [hst, ← hacc, h3]; rfl⟩ (And.intro rfl rfl)))
      · have h3 : onlyA t s i = true := congrArg not h2
        refine And.intro (Nat.le_of_ble_eq_true rfl) (And.intro (Nat.le_of_ble_eq_true rfl) (And.intro (Nat.le_of_ble_eq_true rfl) ?_))
        refine And.intro (by omega) (And.intro (by omega) ?_)
        exact Exists.intro (i + 1, [(i : Int)]) (And.intro (by show t.acts.length - (i + 1) < t.acts.length - i; omega) (And.intro ⟨hi, by show [(i : Int)] = _; rw [hst, ← hacc, h3]; rfl⟩ (And.intro rfl rfl)))
    · have hi : i = t.acts.length := by have := ge_of_dec h1; omega
      rw [hi] at hacc
      refine Exists.intro [264] (.inr ⟨h0, ?_, ?_⟩)
      · rw [← hacc]; rfl
      · rw [← hacc]; rfl
  | cons x r =>
    refine And.intro (fun h1 => ?_) fun h1 => ?_
    · have hi : i < t.acts.length := lt_of_dec h1
      have hst := selI_step i (onlyA t s)
      have hln : (x :: r).length ≤ i := by rw [hacc]; exact selI_len i _
      have hln2 : ((tI x :: r.map tI) ++ [tI i]).length ≤ i + 1 := by simp at hln ⊢; omega
      refine Exists.intro [tI i] (And.intro rfl (And.intro (Nat.le_refl 1) ?_))
      refine SpecP.mono (f60_spec t n1 false s [(i : Int)] ht hs _) ?_
      rintro _ _ ⟨b, hb, rfl, rfl⟩
      refine And.intro trivial (And.intro ⟨flat_bools, trivial⟩ ?_)
      refine And.intro ⟨rfl, rfl, rfl⟩ ?_
      refine Exists.intro (b.map tB) (And.intro (lend rfl) (And.intro (lend2 rfl) ?_))
      refine SpecP.mono (f57_spec false t.gn b t.goal (fun x hx => (TK.goal x hx).inB hN hb.len) _) ?_
      rintro _ _ ⟨rfl, rfl⟩
      refine And.intro trivial (And.intro trivial (And.intro ⟨rfl, rfl, rfl⟩ ?_))
      rw [hb.all]
      refine And.intro (fun h2 => ?_) fun h2 => ?_
      · have h3 : onlyA t s i = false := congrArg not h2
        refine And.intro (by omega) (And.intro (by omega) ?_)
        exact Exists.intro (i + 1, x :: r) (And.intro (by show t.acts.length - (i + 1) < t.acts.length - i; omega) (And.intro ⟨hi, by show x :: r = _; rw [hst, ← hacc, h3]; simp⟩ (And.intro rfl rfl)))
      · have h3 : onlyA t s i = true := congrArg not h2
        refine And.intro (Nat.le_of_ble_eq_true rfl) (And.intro rfl (And.intro (by show ((tI x :: r.map tI) ++ [tI i]).length * 8 ≤ _; omega) (And.intro (by show ((tI x :: r.map tI) ++ [tI i]).length ≤ _; omega) ?_)))
        refine And.intro (by omega) (And.intro (by omega) ?_)
        have e : (r ++ [(i : Int)]).map tI = r.map tI ++ [tI i] := by simp
        refine Exists.intro (i + 1, x :: (r ++ [(i : Int)])) (And.intro (by show t.acts.length - (i + 1) < t.acts.length - i; omega) (And.intro ⟨hi, by show x :: (r ++ [(i : Int)]) = _; rw [hst, ← hacc, h3]; rfl⟩ ?_))
        simp only [List.map_cons, e]
        exact And.intro rfl rfl
    · have hi : i = t.acts.length := by have := ge_of_dec h1; omega
      rw [hi] at hacc
      refine Exists.intro [264] (.inr ⟨h0, ?_, ?_⟩)
      · rw [← hacc]; rfl
      · rw [← hacc]; rfl

end Go.Fw

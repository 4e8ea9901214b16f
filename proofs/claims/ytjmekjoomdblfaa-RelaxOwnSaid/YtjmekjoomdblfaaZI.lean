/- Valid tasks; lists of actions. -/
import Derived.Test.YtjmekjoomdblfaaZH

/- What the program's functions do, part 11: the first place of a byte; package task's names. -/
namespace Go.Fw
open Go Go.Proofs
set_option maxRecDepth 10000

def idxB (s : ByteArray) (c : Int) : Int := Lib.indexByte s.data.toList c.toNat.toUInt8
theorem f85_spec (s : ByteArray) (c : Int) (out : List Fr) : SpecP Try.prog 85 [.str s, .byte c] out fun r ro => r = .int (idxB s c) ∧ ro = [] := by
  refine spec_body cx_ok [] [] (fn := Try.f85) (by kernel_rfl) rfl (by kernel_rfl) rfl (by unfold FnOK; kernel_rfl) fun hok => ?_
  rintro _ rfl
  exact Exists.intro [] (And.intro rfl rfl)
theorem f84_spec (s : ByteArray) (c : Int) (out : List Fr) : SpecP Try.prog 84 [.str s, .byte c] out fun r ro => r = .int (idxB s c) ∧ ro = [] := by
  refine spec_body cx_ok [] [] (fn := Try.f84) (by kernel_rfl) rfl (by kernel_rfl) rfl (by unfold FnOK; kernel_rfl) fun hok => ?_
  refine SpecP.mono (f85_spec s c []) ?_
  rintro _ _ ⟨rfl, rfl⟩
  exact Exists.intro [] (And.intro rfl rfl)

theorem idx_neg (l : List UInt8) (c : UInt8) : Lib.indexByte l c < 0 ↔ ∀ b ∈ l, b ≠ c := by
  induction l with
  | nil => simp [Lib.indexByte]
  | cons b l ih =>
    have hge := Lib.indexByte_ge l c
    rw [Lib.indexByte]
    by_cases hb : b = c
    · simp [hb]
    · have : (b == c) = false := by simpa using hb
      simp only [this, Bool.false_eq_true, if_false]
      simp only [List.mem_cons, forall_eq_or_imp, ne_eq, hb, not_false_eq_true, true_and]
      rw [← show (∀ a ∈ l, a ≠ c) ↔ _ from Iff.rfl, ← ih]
      split
      · rename_i h; simp at h; omega
      · rename_i h; simp at h; omega
theorem idx_within {c : Int} (hc : ∃ b : UInt8, c = (b.toNat : Int)) : decide (idxB punct c < 0) = !withinB punct c := by
  obtain ⟨b, rfl⟩ := hc
  have h : idxB punct (b.toNat : Int) < 0 ↔ ∀ x ∈ punct.data.toList, x ≠ b := by
    unfold idxB
    rw [idx_neg]
    have : ((b.toNat : Int)).toNat.toUInt8 = b := by simp
    rw [this]
  have hw : withinB punct (b.toNat : Int) = punct.data.toList.any (· == b) := by
    have e : ∀ i, (byAt punct i == (b.toNat : Int)) = (punct.data[i]?.getD 0 == b) := by
      intro i
      rw [byAt]
      by_cases h : punct.data[i]?.getD 0 = b
      · rw [h]; simp
      · have : (punct.data[i]?.getD 0).toNat ≠ b.toNat := fun hh => h (UInt8.toNat_inj.1 hh)
        have h2 : (((punct.data[i]?.getD 0).toNat : Int) == (b.toNat : Int)) = false := by simp; omega
        have h3 : (punct.data[i]?.getD 0 == b) = false := by simpa using h
        rw [h2, h3]
    unfold withinB
    simp only [e]
    rfl
  rw [hw]
  cases hh : punct.data.toList.any (· == b) with
  | true =>
    obtain ⟨x, hx, hxb⟩ := List.any_eq_true.1 hh
    simp only [Bool.not_true, decide_eq_false_iff_not]
    rw [h]
    intro hf
    exact hf x hx (by simpa using hxb)
  | false =>
    simp only [Bool.not_false, decide_eq_true_eq]
    rw [h]
    intro x hx hxb
    have := List.any_eq_false.1 hh x hx
    simp [hxb] at this

theorem byAt_u8 (s : ByteArray) (i : Nat) : ∃ b : UInt8, byAt s i = (b.toNat : Int) := ⟨_, rfl⟩
def kp75 : Kp := [(4, ([0, 19, 20], []))]
theorem eq_empty {s : ByteArray} {b : Bool} (h : (s.toList == (⟨#[]⟩ : ByteArray).toList) = b) : b = decide (s.size = 0) := by
  rw [Lib.toList_data, Lib.toList_data] at h
  have hsz : s.size = s.data.toList.length := by rw [Array.length_toList]; rfl
  rw [← h, hsz]
  generalize s.data.toList = l
  cases l with
  | nil => rfl
  | cons _ _ => rfl
theorem f75_spec (s : ByteArray) (out : List Fr) : SpecP Try.prog 75 [.str s] out fun r ro => r = .bool (nameB s) ∧ ro = [] := by
  refine spec_body cx_ok kp75 [] (fn := Try.f75) (by kernel_rfl) rfl (by kernel_rfl) rfl (by unfold FnOK; kernel_rfl) fun hok => ?_
  refine And.intro (fun h1 => ?_) fun h1 => ?_
  · exact Exists.intro [] (ret_bool (by have h0 : s.size = 0 := of_decide_eq_true (eq_empty h1).symm; rw [nameB, h0]; rfl) rfl)
  refine And.intro (fun h2 => ?_) fun h2 => ?_
  · exact Exists.intro [] (ret_bool (by simp [nameB]; simp at h2; omega) rfl)
  have hs : 1 ≤ s.size ∧ s.size ≤ 40 := by have h0 : ¬ s.size = 0 := of_decide_eq_false (eq_empty h1).symm; simp at h2; omega
  refine And.intro (by decide) (Exists.intro _ (And.intro (byAt_get (i := 0) hs.1) ?_))
  refine SpecP.mono (f83_spec (byAt s 0) []) ?_
  rintro r ro ⟨rfl, rfl⟩
  refine And.intro (fun h3 => ?_) fun h3 => ?_
  · refine LoopW.mk Nat (fun i => i ≤ s.size ∧ (List.range i).all (fun i => okB (byAt s i)) = true) (fun i => [(0, .str s), (19, .int s.size), (20, .int i)]) (fun _ => ⟨out, []⟩) (fun i => s.size - i) 0 ⟨Nat.zero_le _, rfl⟩ ⟨rfl, rfl⟩ fun i hI => ?_
    refine And.intro (fun h4 => ?_) fun h4 => ?_
    · have hi : i < s.size := by simpa using h4
      refine And.intro (by omega) (Exists.intro _ (And.intro (byAt_get hi) ?_))
      refine SpecP.mono (f83_spec (byAt s i) []) ?_
      rintro r ro ⟨rfl, rfl⟩
      have next : okB (byAt s i) = true → ∀ {p : Prop}, ((s.size - (i + 1) < s.size - i) → (i + 1 ≤ s.size ∧ (List.range (i + 1)).all (fun i => okB (byAt s i)) = true) → p) → p := fun h _ hp => hp (by omega) ⟨hi, range_step hI.2 h⟩
      refine And.intro (fun h5 => ?_) fun h5 => ?_
      · refine And.intro (by omega) (And.intro (by omega) ?_)
        exact Exists.intro (i + 1) (And.intro (by show s.size - (i + 1) < s.size - i; omega) (And.intro ⟨hi, range_step hI.2 (by simp [okB, h5])⟩ (And.intro rfl rfl)))
      · have hd : ∀ b, okB (byAt s i) = b → decide (48 ≤ byAt s i) = true ∧ decide (byAt s i ≤ 57) = true → b = true := fun b hb ⟨g1, g2⟩ => by rw [← hb]; simp only [okB, digitB, g1, g2]; simp
        refine And.intro (fun h6 => ?_) fun h6 => ?_
        · refine SpecP.mono (f84_spec punct (byAt s i) []) ?_
          rintro r ro ⟨rfl, rfl⟩
          have hx := idx_within (byAt_u8 s i)
          have hdig : digitB (byAt s i) = false := by have g6 : byAt s i < 48 := of_decide_eq_true h6; simp only [digitB, Bool.and_eq_false_iff, decide_eq_false_iff_not]; omega
          refine And.intro (fun h7 => ?_) fun h7 => ?_
          · rw [h7] at hx
            exact Exists.intro [] (ret_bool (by rw [nameB, range_false hi (by simp at hx; simp [okB, h5, hdig, hx])]; simp) rfl)
          · rw [h7] at hx
            refine And.intro (by omega) (And.intro (by omega) ?_)
            exact Exists.intro (i + 1) (And.intro (by show s.size - (i + 1) < s.size - i; omega) (And.intro ⟨hi, range_step hI.2 (by simp at hx; simp [okB, hx])⟩ (And.intro rfl rfl)))
        · refine And.intro (fun h8 => ?_) fun h8 => ?_
          · refine SpecP.mono (f84_spec punct (byAt s i) []) ?_
            rintro r ro ⟨rfl, rfl⟩
            have hx := idx_within (byAt_u8 s i)
            have hdig : digitB (byAt s i) = false := by have g8 : byAt s i > 57 := of_decide_eq_true h8; simp only [digitB, Bool.and_eq_false_iff, decide_eq_false_iff_not]; omega
            refine And.intro (fun h7 => ?_) fun h7 => ?_
            · rw [h7] at hx
              exact Exists.intro [] (ret_bool (by rw [nameB, range_false hi (by simp at hx; simp [okB, h5, hdig, hx])]; simp) rfl)
            · rw [h7] at hx
              refine And.intro (by omega) (And.intro (by omega) ?_)
              exact Exists.intro (i + 1) (And.intro (by show s.size - (i + 1) < s.size - i; omega) (And.intro ⟨hi, range_step hI.2 (by simp at hx; simp [okB, hx])⟩ (And.intro rfl rfl)))
          · have hdig : digitB (byAt s i) = true := by have g6 : ¬ byAt s i < 48 := of_decide_eq_false h6; have g8 : ¬ byAt s i > 57 := of_decide_eq_false h8; simp only [digitB, Bool.and_eq_true, decide_eq_true_eq]; omega
            refine And.intro (by omega) (And.intro (by omega) ?_)
            exact Exists.intro (i + 1) (And.intro (by show s.size - (i + 1) < s.size - i; omega) (And.intro ⟨hi, range_step hI.2 (by simp [okB, hdig])⟩ (And.intro rfl rfl)))
    · have hi : i = s.size := by have := hI.1; simp at h4; omega
      have h5 := hI.2
      rw [hi] at h5
      exact Exists.intro [] (ret_bool (by rw [nameB, h5, h3]; simp; omega) rfl)
  · exact Exists.intro [] (ret_bool (by simp [nameB, h3]) rfl)

end Go.Fw

/- What the program's functions do, part 12: Few: it comes back; its sums may wrap. -/
namespace Go.Fw
open Go Go.Proofs
set_option maxRecDepth 10000

theorem wrap64 {n : Int} (h : -9223372036854775808 ≤ n) (h2 : n ≤ 9223372036854775807) : IntKind.i64.wrap n = n := wrap_in h h2
theorem ret_any {b : Bool} {ro : Fr} (h2 : ro = []) : ∃ c : Bool, LV.t (.v (.bool b)) = .bool c ∧ ro = [] := ⟨b, rfl, h2⟩

def kp25 : Kp := [(5, ([1, 2, 5, 31, 32, 33], [16])), (11, ([1, 5, 43, 44, 45], [])), (17, ([1, 5, 43, 44, 45, 69, 70, 71], []))]
theorem f25_spec (t : Task) (most : Int) (out : List Fr) : SpecP Try.prog 25 [.task t, .int most] out fun r ro => ∃ b : Bool, r = .bool b ∧ ro = [] := by
  refine spec_body cxw_ok kp25 [] (fn := Try.f25) (by kernel_rfl) rfl (by kernel_rfl) rfl (by unfold FnOK; kernel_rfl) fun hok => ?_
  have hfm := le_max hok.1.1.1
  have ham := le_max hok.1.2.2.2.1.1
  have hae : ∀ a ∈ t.acts, (a.effs.length : Int) ≤ 9223372036854775807 := fun a ha => by
    have h1 := hok.1.2.2.2.1.2
    have h2 := okEs_iff.1 h1 (tAct a) (List.mem_map_of_mem ha) (.sl a.en 3 (a.effs.map tEff)) (by simp [tAct])
    exact le_max h2.1
  intro m1 _ m2 _ m3 _
  refine And.intro (fun h1 => ?_) fun h1 => ?_
  · exact Exists.intro [] (ret_any rfl)
  refine LoopW.mk Nat (fun i => i ≤ t.facts.length) (fun i => [(1, .int most), (2, .ptr (.cur 16) 0), (5, .int m3), (31, .t (.sl t.fn 1 (t.facts.map tS))), (32, .int (t.facts.map tS).length), (33, .int i)])
    (fun _ => ⟨out, [(16, .box [.t (.sl t.fn 1 (t.facts.map tS)), .t (.sl t.ni 1 (t.init.map tI)), .t (.sl t.gn 2 (t.goal.map tLit)), .t (.sl t.an 4 (t.acts.map tAct))])]⟩) (fun i => t.facts.length - i) 0 (Nat.zero_le _) ⟨rfl, rfl⟩ fun i hI => ?_
  refine And.intro (fun h2 => ?_) fun h2 => ?_
  · have hi := lt_of_dec h2
    refine And.intro (by omega) (Exists.intro _ (And.intro (get_map hi) ?_))
    refine And.intro (fun h3 => ?_) fun h3 => ?_
    · exact Exists.intro [] (ret_any rfl)
    · intro m hm
      rw [wrap64 (by omega) (by omega)] at hm
      subst hm
      exact Exists.intro (i + 1) (And.intro (by show t.facts.length - (i + 1) < t.facts.length - i; omega) (And.intro hi (And.intro rfl rfl)))
  refine LoopW.mk (Nat × Int) (fun p => p.1 ≤ t.acts.length) (fun p => [(1, .int most), (5, .int p.2), (43, .t (.sl t.an 4 (t.acts.map tAct))), (44, .int (t.acts.map tAct).length), (45, .int p.1)])
    (fun _ => ⟨out, []⟩) (fun p => t.acts.length - p.1) (0, m3) (Nat.zero_le _) ⟨rfl, rfl⟩ ?_
  rintro ⟨j, n⟩ hJ
  simp only at hJ
  refine And.intro (fun h4 => ?_) fun h4 => ?_
  · have hj : j < t.acts.length := lt_of_dec h4
    refine And.intro (by omega) (Exists.intro _ (And.intro (get_map hj) ?_))
    intro n1 _ n2 _
    have hel := hae _ (List.getElem_mem hj)
    have loop : ∀ {p : Prop}, p → p := fun h => h
    refine And.intro (fun h5 => ?_) fun h5 => ?_
    · exact Exists.intro [] (ret_any rfl)
    refine And.intro (fun h6 => ?_) fun h6 => ?_
    · exact Exists.intro [] (ret_any rfl)
    refine LoopW.mk (Nat × Int) (fun p => p.1 ≤ t.acts[j].effs.length) (fun p => [(1, .int most), (5, .int p.2), (43, .t (.sl t.an 4 (t.acts.map tAct))), (44, .int (t.acts.map tAct).length), (45, .int j), (69, .t (.sl t.acts[j].en 3 (t.acts[j].effs.map tEff))), (70, .int (t.acts[j].effs.map tEff).length), (71, .int p.1)])
      (fun _ => ⟨out, []⟩) (fun p => t.acts[j].effs.length - p.1) (0, n2) (Nat.zero_le _) ⟨rfl, rfl⟩ ?_
    rintro ⟨k, q⟩ hK
    simp only at hK
    refine And.intro (fun h7 => ?_) fun h7 => ?_
    · have hk : k < t.acts[j].effs.length := lt_of_dec h7
      refine And.intro (by omega) (Exists.intro _ (And.intro (get_map hk) ?_))
      intro q1 _ m hm
      rw [wrap64 (by omega) (by omega)] at hm
      subst hm
      exact Exists.intro (k + 1, q1) (And.intro (by show t.acts[j].effs.length - (k + 1) < t.acts[j].effs.length - k; omega) (And.intro hk (And.intro rfl rfl)))
    · intro m hm
      rw [wrap64 (by omega) (by omega)] at hm
      subst hm
      exact Exists.intro (j + 1, q) (And.intro (by show t.acts.length - (j + 1) < t.acts.length - j; omega) (And.intro hj (And.intro rfl rfl)))
  · refine And.intro (fun h8 => ?_) fun h8 => ?_
    · exact Exists.intro [] (ret_any rfl)
    · exact Exists.intro [] (ret_any rfl)
end Go.Fw

/- What the program's functions do, part 13: Valid. -/
namespace Go.Fw
open Go Go.Proofs
set_option maxRecDepth 10000

def kp63 : Kp := [(6, ([1, 3, 4, 38, 39, 40], [8, 288])), (14, ([3, 4, 57, 58, 59], [440])), (20, ([3, 4, 57, 58, 59, 100, 101, 102], [440]))]
theorem f63_spec (t : Task) (out : List Fr) : SpecP Try.prog 63 [.task t] out fun r ro => r = .bool (isB t) ∧ ro = [] := by
  refine spec_body cx_ok kp63 [] (fn := Try.f63) (by kernel_rfl) rfl (by kernel_rfl) rfl (by unfold FnOK; kernel_rfl) fun hok => ?_
  have hfm := le_max hok.1.1.1
  have ham := le_max hok.1.2.2.2.1.1
  refine And.intro (fun h1 => ?_) fun h1 => ?_
  · exact Exists.intro [] (ret_bool (by simp at h1; simp [isB]; omega) rfl)
  refine And.intro (fun h2 => ?_) fun h2 => ?_
  · exact Exists.intro [] (ret_bool (by simp at h2; simp [isB]; omega) rfl)
  refine SpecP.mono (f64_spec t.ni t.init (t.facts.map tS).length []) ?_
  rintro _ _ ⟨rfl, rfl⟩
  rw [List.length_map]
  refine And.intro (fun h3 => ?_) fun h3 => ?_
  rotate_left
  · exact Exists.intro [] (ret_bool (by simp [isB, h3]) rfl)
  refine SpecP.mono (f74_spec t.gn t.goal t.facts.length []) ?_
  rintro _ _ ⟨rfl, rfl⟩
  refine And.intro (fun h4 => ?_) fun h4 => ?_
  rotate_left
  · exact Exists.intro [] (ret_bool (by simp [isB, h4]) rfl)
  have hl1 : t.facts.length ≤ 200 := by simp at h1; omega
  have hl2 : t.acts.length ≤ 1000 := by simp at h2; omega
  refine LoopW.mk Nat (fun i => i ≤ t.facts.length ∧ (List.range i).all (chkS t.facts) = true)
    (fun i => [(1, .ptr (.cur 8) 0), (3, .int t.facts.length), (4, .mpr (.cur 288)), (38, .t (.sl t.fn 1 (t.facts.map tS))), (39, .int (t.facts.map tS).length), (40, .int i)])
    (fun i => ⟨out, [(8, .box [.t (.sl t.fn 1 (t.facts.map tS)), .t (.sl t.ni 1 (t.init.map tI)), .t (.sl t.gn 2 (t.goal.map tLit)), .t (.sl t.an 4 (t.acts.map tAct))]), (288, .mp .str (kvS (t.facts.take i)))]⟩) (fun i => t.facts.length - i) 0 ⟨Nat.zero_le _, rfl⟩ ⟨rfl, rfl⟩ fun i hI => ?_
  refine And.intro (fun h5 => ?_) fun h5 => ?_
  · have hi := lt_of_dec h5
    have ha : atS t.facts i = t.facts[i] := by simp [atS, hi]
    have hno : chkS t.facts i = false → isB t = false := fun h => by
      have : namesB t.facts = false := range_false hi h
      simp [isB, this]
    refine And.intro (by omega) (Exists.intro _ (And.intro (get_map hi) ?_))
    refine SpecP.mono (f75_spec t.facts[i] []) ?_
    rintro _ _ ⟨rfl, rfl⟩
    refine And.intro (fun h6 => ?_) fun h6 => ?_
    · refine Exists.intro _ (And.intro (look_kvS _ _) ?_)
      refine And.intro (fun h7 => ?_) fun h7 => ?_
      · exact Exists.intro [] (ret_bool (hno (by simp only [chkS, ha, h7]; simp)) rfl)
      · refine And.intro (by omega) (And.intro (by omega) ?_)
        refine Exists.intro (i + 1) (And.intro (by show t.facts.length - (i + 1) < t.facts.length - i; omega) (And.intro ⟨hi, range_step hI.2 (by simp only [chkS, ha, h6, h7]; simp)⟩ (And.intro rfl ?_)))
        have e : updKV (.string t.facts[i]) (.v (.bool true)) (kvS (t.facts.take i)) = kvS (t.facts.take (i + 1)) := by
          rw [upd_kvS _ _ h7, List.take_add_one]; simp [hi]
        show (⟨out, [_, (288, .mp .str (updKV (.string t.facts[i]) (.v (.bool true)) (kvS (t.facts.take i))))]⟩ : St) = _
        rw [e]
    · exact Exists.intro [] (ret_bool (hno (by simp only [chkS, ha, h6]; simp)) rfl)
  have hi : i = t.facts.length := by have := hI.1; have := ge_of_dec h5; omega
  have hnf : namesB t.facts = true := by have := hI.2; rw [hi] at this; exact this
  clear hI h5
  have hln : (t.acts.map (·.name)).length = t.acts.length := List.length_map ..
  refine LoopW.mk Nat (fun i => i ≤ t.acts.length ∧ (List.range i).all (chkS (t.acts.map (·.name))) = true ∧ (t.acts.take i).all (actB t.facts.length) = true)
    (fun i => [(3, .int t.facts.length), (4, .mpr (.cur 440)), (57, .t (.sl t.an 4 (t.acts.map tAct))), (58, .int (t.acts.map tAct).length), (59, .int i)])
    (fun i => ⟨out, [(440, .mp .str (kvS ((t.acts.map (·.name)).take i)))]⟩) (fun i => t.acts.length - i) 0 ⟨Nat.zero_le _, rfl, rfl⟩ ⟨rfl, rfl⟩ ?_
  intro i ⟨hi0, hnm, hall⟩
  refine And.intro (fun h6 => ?_) fun h6 => ?_
  · have hi : i < t.acts.length := lt_of_dec h6
    have hi' : i < (t.acts.map (·.name)).length := by rw [hln]; exact hi
    have ha : atS (t.acts.map (·.name)) i = t.acts[i].name := by simp [atS, hi]
    have hno : chkS (t.acts.map (·.name)) i = false → isB t = false := fun h => by
      have : namesB (t.acts.map (·.name)) = false := range_false hi' h
      simp [isB, this]
    have hact : ∀ (h : actB t.facts.length t.acts[i] = false), isB t = false := fun h => by simp [isB, all_false hi h]
    refine And.intro (by omega) (Exists.intro _ (And.intro (get_map hi) ?_))
    refine SpecP.mono (f75_spec t.acts[i].name []) ?_
    rintro _ _ ⟨rfl, rfl⟩
    refine And.intro (fun h7 => ?_) fun h7 => ?_
    rotate_left
    · exact Exists.intro [] (ret_bool (hno (by simp only [chkS, ha, h7]; simp)) rfl)
    refine Exists.intro _ (And.intro (look_kvS _ _) ?_)
    refine And.intro (fun h8 => ?_) fun h8 => ?_
    · exact Exists.intro [] (ret_bool (hno (by simp only [chkS, ha, h8]; simp)) rfl)
    refine And.intro (fun h9 => ?_) fun h9 => ?_
    · exact Exists.intro [] (ret_bool (hact (by simp at h9; simp [actB]; omega)) rfl)
    refine And.intro (fun h10 => ?_) fun h10 => ?_
    · exact Exists.intro [] (ret_bool (hact (by simp at h10; simp [actB]; omega)) rfl)
    refine SpecP.mono (f74_spec t.acts[i].pn t.acts[i].pre t.facts.length []) ?_
    rintro _ _ ⟨rfl, rfl⟩
    refine And.intro (fun h11 => ?_) fun h11 => ?_
    rotate_left
    · exact Exists.intro [] (ret_bool (hact (by simp [actB, h11])) rfl)
    refine And.intro (fun h12 => ?_) fun h12 => ?_
    · exact Exists.intro [] (ret_bool (hact (by simp at h12; simp [actB]; omega)) rfl)
    have hel : t.acts[i].effs.length ≤ 100 := by simp at h12; omega
    have e : updKV (.string t.acts[i].name) (.v (.bool true)) (kvS ((t.acts.map (·.name)).take i)) = kvS ((t.acts.map (·.name)).take (i + 1)) := by
      rw [upd_kvS _ _ h8, List.take_add_one]; simp [hi]
    refine LoopW.mk Nat (fun j => j ≤ t.acts[i].effs.length ∧ (t.acts[i].effs.take j).all (effB t.facts.length) = true)
      (fun j => [(3, .int t.facts.length), (4, .mpr (.cur 440)), (57, .t (.sl t.an 4 (t.acts.map tAct))), (58, .int (t.acts.map tAct).length), (59, .int i), (100, .t (.sl t.acts[i].en 3 (t.acts[i].effs.map tEff))), (101, .int (t.acts[i].effs.map tEff).length), (102, .int j)])
      (fun j => ⟨out, [(440, .mp .str (kvS ((t.acts.map (·.name)).take (i + 1))))]⟩) (fun j => t.acts[i].effs.length - j) 0 ⟨Nat.zero_le _, rfl⟩ ⟨rfl, by rw [← e]; rfl⟩ fun j hJ => ?_
    refine And.intro (fun k1 => ?_) fun k1 => ?_
    · have hj : j < t.acts[i].effs.length := lt_of_dec k1
      have heff : ∀ (h : effB t.facts.length t.acts[i].effs[j] = false), isB t = false := fun h => hact (by simp [actB, all_false hj h])
      refine And.intro (by omega) (Exists.intro _ (And.intro (get_map hj) ?_))
      refine SpecP.mono (f74_spec t.acts[i].effs[j].nil t.acts[i].effs[j].when_ t.facts.length []) ?_
      rintro _ _ ⟨rfl, rfl⟩
      refine And.intro (fun k2 => ?_) fun k2 => ?_
      rotate_left
      · exact Exists.intro [] (ret_bool (heff (by simp [effB, k2])) rfl)
      refine And.intro (fun k3 => ?_) fun k3 => ?_
      · exact Exists.intro [] (ret_bool (heff (by simp at k3; simp [effB]; omega)) rfl)
      refine And.intro (fun k4 => ?_) fun k4 => ?_
      · exact Exists.intro [] (ret_bool (heff (by simp at k4; simp [effB]; omega)) rfl)
      refine And.intro (by omega) (And.intro (by omega) ?_)
      exact Exists.intro (j + 1) (And.intro (by show t.acts[i].effs.length - (j + 1) < t.acts[i].effs.length - j; omega) (And.intro ⟨hj, all_step hj hJ.2 (by simp at k3 k4; simp [effB, k2]; omega)⟩ (And.intro rfl rfl)))
    · have he : t.acts[i].effs.all (effB t.facts.length) = true := all_end (ge_of_dec k1) hJ.2
      have hb : actB t.facts.length t.acts[i] = true := by simp at h9 h10 h12; simp [actB, h11, he]; omega
      refine And.intro (by omega) (And.intro (by omega) ?_)
      exact Exists.intro (i + 1) (And.intro (by show t.acts.length - (i + 1) < t.acts.length - i; omega) (And.intro ⟨hi, range_step hnm (by simp only [chkS, ha, h7, h8]; simp), all_step hi hall hb⟩ (And.intro rfl rfl)))
  · have hi : i = t.acts.length := by have := ge_of_dec h6; omega
    have hn2 : namesB (t.acts.map (·.name)) = true := by unfold namesB; rw [hln, ← hi]; exact hnm
    rw [hi, List.take_length] at hall
    exact Exists.intro [] (ret_bool (by simp [isB, h3, h4, hl1, hl2, hall, hnf, hn2]) rfl)

end Go.Fw

/- What the program's functions do, part 14: binary search; functions that take functions. -/
namespace Go.Fw
open Go Go.Proofs
set_option maxRecDepth 10000

theorem f78_spec (x : Int) (out : List Fr) : SpecP Try.prog 78 [.int x] out fun r ro => r = .bool false ∧ ro = [] := by
  refine spec_body cx_ok [] [] (fn := Try.f78) (by kernel_rfl) rfl (by kernel_rfl) rfl (by unfold FnOK; kernel_rfl) fun hok => ?_
  refine And.intro (fun h => ?_) fun h => ?_
  · simp at h
  · exact Exists.intro [] (ret_bool rfl rfl)
theorem f69_spec (x : Int) (out : List Fr) : SpecP Try.prog 69 [.int x] out fun r ro => r = .bool false ∧ ro = [] := by
  refine spec_body cx_ok [] [] (fn := Try.f69) (by kernel_rfl) rfl (by kernel_rfl) rfl (by unfold FnOK; kernel_rfl) fun hok => ?_
  refine And.intro (fun h => ?_) fun h => ?_
  · simp at h
  · exact Exists.intro [] (ret_bool rfl rfl)
theorem f68_spec (x y : Int) (out : List Fr) : SpecP Try.prog 68 [.int x, .int y] out fun r ro => r = .bool (decide (x < y)) ∧ ro = [] := by
  refine spec_body cx_ok [] [] (fn := Try.f68) (by kernel_rfl) rfl (by kernel_rfl) rfl (by unfold FnOK; kernel_rfl) fun hok => ?_
  refine SpecP.mono (f78_spec x []) ?_
  rintro _ _ ⟨rfl, rfl⟩
  refine And.intro (fun h => Bool.noConfusion h) fun _ => ?_
  refine And.intro (fun h => ?_) fun h => ?_
  · exact Exists.intro [] (ret_bool h rfl)
  · exact Exists.intro [] (ret_bool h rfl)

theorem rising_lt {l : List Int} {n : Int} (h : risingB l n = true) : ∀ j i (hj : j < l.length) (hi : i < j), l[i]'(by omega) < l[j] := by
  have hs : ∀ i, i < l.length → chkI l n i = true := fun i hi => List.all_eq_true.1 h i (List.mem_range.2 hi)
  intro j
  induction j with
  | zero => intro i _ hi; omega
  | succ j ih =>
    intro i hj hi
    have h1 := hs (j + 1) hj
    simp only [chkI, Bool.and_eq_true, Bool.or_eq_true, decide_eq_true_eq, beq_iff_eq] at h1
    have h2 : l[j]'(by omega) < l[j + 1] := by
      rcases h1.2 with h1 | h1
      · omega
      · rw [Nat.add_sub_cancel] at h1
        rwa [at0_eq hj, at0_eq (show j < l.length by omega)] at h1
    rcases Nat.lt_or_ge i j with hij | hij
    · exact Int.lt_trans (ih i (by omega) hij) h2
    · have : i = j := by omega
      subst this; exact h2
theorem rising_in {l : List Int} {n : Int} (h : risingB l n = true) : ∀ x ∈ l, 0 ≤ x ∧ x < n := fun x hx => by
  obtain ⟨i, hi, rfl⟩ := List.getElem_of_mem hx
  have := List.all_eq_true.1 h i (List.mem_range.2 hi)
  simp only [chkI, Bool.and_eq_true, decide_eq_true_eq, at0_eq hi] at this
  exact this.1

theorem rising_len {l : List Int} {n : Int} (h : risingB l n = true) (hn : n ≤ 1000000000) : l.length ≤ 1000000000 := by
  have key : ∀ i (hi : i < l.length), (i : Int) ≤ l[i] := by
    intro i
    induction i with
    | zero => intro hi; exact (rising_in h _ (List.getElem_mem hi)).1
    | succ i ih => intro hi; have := ih (by omega); have := rising_lt h (i + 1) i hi (by omega); omega
  rcases Nat.eq_zero_or_pos l.length with h0 | h0
  · omega
  · have h1 := key (l.length - 1) (by omega)
    have h2 := (rising_in h _ (List.getElem_mem (show l.length - 1 < l.length by omega))).2
    omega
def kp53 : Kp := [(3, ([0, 1, 6, 7, 8], []))]
theorem f53_spec (n1 : Bool) (l : List Int) (n x : Int) (hs : risingB l n = true) (hn : n ≤ 1000000000) (out : List Fr) :
    SpecP Try.prog 53 [.ints n1 l, .int x] out fun r ro => ∃ p : Int, r = .tup [.int p, .bool (hasB l x)] ∧ ro = [] := by
  refine spec_body cx_ok kp53 [] (fn := Try.f53) (by kernel_rfl) rfl (by kernel_rfl) rfl (by unfold FnOK; kernel_rfl) fun hok => ?_
  have hmx := le_max hok.1.1
  have hlt := rising_lt hs
  have hln := rising_len hs hn
  refine LoopW.mk (Nat × Nat) (fun p => p.1 ≤ p.2 ∧ p.2 ≤ l.length ∧ (∀ i (h : i < l.length), i < p.1 → l[i] < x) ∧ (∀ i (h : i < l.length), p.2 ≤ i → x ≤ l[i]))
    (fun p => [(0, .ints n1 l), (1, .int x), (6, .int (l.map tI).length), (7, .int p.1), (8, .int p.2)]) (fun _ => ⟨out, []⟩) (fun p => p.2 - p.1) (0, (l.map tI).length) ⟨Nat.zero_le _, by simp, fun i _ h => by omega, fun i h h2 => by simp at h2; omega⟩ ⟨rfl, rfl⟩ ?_
  rintro ⟨a, b⟩ ⟨hab, hbl, h1, h2⟩
  simp only at hab hbl h1 h2
  refine And.intro (fun k1 => ?_) fun k1 => ?_
  · have hlt' : a < b := by simpa using k1
    refine And.intro (by omega) (And.intro (by omega) (And.intro (by omega) (And.intro (by omega) (And.intro (by omega) (And.intro rfl (And.intro (by omega) (And.intro (by omega) (And.intro (by omega) (And.intro (by omega) ?_)))))))))
    have hm : ((a : Int) + b) / 2 = ((a + b) / 2 : Nat) := by omega
    rw [hm]
    have hml : (a + b) / 2 < l.length := by omega
    refine And.intro (by omega) (Exists.intro _ (And.intro (get_map hml) ?_))
    refine SpecP.mono (f68_spec _ _ []) ?_
    rintro _ _ ⟨rfl, rfl⟩
    refine And.intro (fun k2 => ?_) fun k2 => ?_
    · refine And.intro (by omega) (And.intro (by omega) ?_)
      refine Exists.intro ((a + b) / 2 + 1, b) (And.intro (by show b - ((a + b) / 2 + 1) < b - a; omega) (And.intro ⟨by show (a + b) / 2 + 1 ≤ b; omega, hbl, fun i hi hia => ?_, h2⟩ (And.intro rfl rfl)))
      have hia : i < (a + b) / 2 + 1 := hia
      have k2 : l[(a + b) / 2] < x := by simpa using k2
      rcases Nat.lt_or_ge i ((a + b) / 2) with hj | hj
      · exact Int.lt_trans (hlt _ i hml hj) k2
      · have : i = (a + b) / 2 := by omega
        subst this; exact k2
    · refine Exists.intro (a, (a + b) / 2) (And.intro (by show (a + b) / 2 - a < b - a; omega) (And.intro ⟨by show a ≤ (a + b) / 2; omega, by show (a + b) / 2 ≤ l.length; omega, h1, fun i hi hia => ?_⟩ (And.intro rfl rfl)))
      have hia : (a + b) / 2 ≤ i := hia
      have k2 : x ≤ l[(a + b) / 2] := by simpa using k2
      rcases Nat.lt_or_ge ((a + b) / 2) i with hj | hj
      · have := hlt i _ hi hj; omega
      · have : i = (a + b) / 2 := by omega
        subst this; exact k2
  · have hba : a = b := by simp at k1; omega
    subst hba
    refine And.intro (fun k2 => ?_) fun k2 => ?_
    · have hal : a < l.length := by simpa using k2
      refine And.intro (by omega) (Exists.intro _ (And.intro (get_map hal) ?_))
      refine And.intro (fun k3 => ?_) fun k3 => ?_
      · have hh : hasB l x = true := any_true hal (by simpa using k3)
        rw [hh]
        exact Exists.intro [] ⟨_, rfl, rfl⟩
      · have hh : hasB l x = false := by
          cases hb : hasB l x with
          | false => rfl
          | true =>
            obtain ⟨y, hy, hyx⟩ := List.any_eq_true.1 hb
            obtain ⟨i, hi, rfl⟩ := List.getElem_of_mem hy
            have hyx : l[i] = x := by simpa using hyx
            have k3 : ¬ l[a] = x := by simpa using k3
            rcases Nat.lt_trichotomy i a with g | g | g
            · have := h1 i hi g; omega
            · subst g; exact absurd hyx k3
            · have := h2 a hal (Nat.le_refl _); have := hlt i a hi g; omega
        refine And.intro (by omega) (Exists.intro _ (And.intro (get_map hal) ?_))
        refine SpecP.mono (f69_spec _ []) ?_
        rintro _ _ ⟨rfl, rfl⟩
        refine And.intro (fun h => Bool.noConfusion h) fun _ => ?_
        rw [hh]
        exact Exists.intro [] ⟨_, rfl, rfl⟩
    · have hal : l.length ≤ a := by simpa using k2
      have hh : hasB l x = false := by
        cases hb : hasB l x with
        | false => rfl
        | true =>
          obtain ⟨y, hy, hyx⟩ := List.any_eq_true.1 hb
          obtain ⟨i, hi, rfl⟩ := List.getElem_of_mem hy
          have hyx : l[i] = x := by simpa using hyx
          have := h1 i hi (by omega); omega
      rw [hh]
      exact Exists.intro [] ⟨_, rfl, rfl⟩

end Go.Fw

/- What the program's functions do, part 15: functions that take functions; True, Fine, all. -/
namespace Go.Fw
open Go Go.Proofs
set_option maxRecDepth 10000

def kp76 : Kp := [(2, ([0, 1, 7, 8], []))]
theorem f76_spec (n1 : Bool) (l : List Lit) (fc k s : Nat) (p : Lit → Bool) (out : List Fr)
    (hc : ∀ x ∈ l, SpecP Try.prog fc [.lit x, .ptr (.fr (k + 1) s) 0] ([] :: out) fun r ro => r = .bool (p x) ∧ ro = []) :
    SpecP Try.prog 76 [.lits n1 l, .fn fc [(.fr k s, 0)]] out fun r ro => ∃ j : Int, r = .int j ∧ decide (0 ≤ j) = l.any p ∧ ro = [] := by
  refine spec_body cx_ok kp76 [] (fn := Try.f76) (by kernel_rfl) rfl (by kernel_rfl) rfl (by unfold FnOK; kernel_rfl) fun hok => ?_
  have hmx := le_max hok.1.1
  refine LoopW.mk Nat (fun i => i ≤ l.length ∧ (l.take i).any p = false) (fun i => [(0, .lits n1 l), (1, .fn fc [(.fr k s, 0)]), (7, .int (l.map tLit).length), (8, .int i)]) (fun _ => ⟨out, []⟩) (fun i => l.length - i) 0 ⟨Nat.zero_le _, rfl⟩ ⟨rfl, rfl⟩ fun i hI => ?_
  refine And.intro (fun h1 => ?_) fun h1 => ?_
  · have hi := lt_of_dec h1
    refine And.intro (by omega) (Exists.intro _ (And.intro (get_map hi) ?_))
    refine SpecP.mono (hc _ (List.getElem_mem hi)) ?_
    rintro _ _ ⟨rfl, rfl⟩
    refine And.intro trivial (And.intro trivial ?_)
    refine And.intro (fun h2 => ?_) fun h2 => ?_
    · exact Exists.intro [] ⟨_, rfl, by rw [any_true hi h2]; simp, rfl⟩
    · refine And.intro (by omega) (And.intro (by omega) ?_)
      exact Exists.intro (i + 1) (And.intro (by show l.length - (i + 1) < l.length - i; omega) (And.intro ⟨hi, any_step hi hI.2 h2⟩ (And.intro rfl rfl)))
  · exact Exists.intro [] ⟨_, rfl, by rw [any_end (ge_of_dec h1) hI.2]; rfl, rfl⟩

theorem f65_spec (n1 : Bool) (l : List Lit) (fc k s : Nat) (p : Lit → Bool) (out : List Fr)
    (hc : ∀ x ∈ l, SpecP Try.prog fc [.lit x, .ptr (.fr (k + 2) s) 0] ([] :: [] :: out) fun r ro => r = .bool (p x) ∧ ro = []) :
    SpecP Try.prog 65 [.lits n1 l, .fn fc [(.fr k s, 0)]] out fun r ro => r = .bool (l.any p) ∧ ro = [] := by
  refine spec_body cx_ok [] [] (fn := Try.f65) (by kernel_rfl) rfl (by kernel_rfl) rfl (by unfold FnOK; kernel_rfl) fun hok => ?_
  refine SpecP.mono (f76_spec n1 l fc (k + 1) s p _ hc) ?_
  rintro _ _ ⟨j, rfl, hj, rfl⟩
  refine And.intro trivial (And.intro trivial ?_)
  refine And.intro (fun h => ?_) fun h => ?_
  · exact Exists.intro [] (ret_bool (by rw [← hj]; simpa using h) rfl)
  · exact Exists.intro [] (ret_bool (by rw [← hj]; simpa using h) rfl)

theorem not_any {l : List Lit} {p q : Lit → Bool} (h : ∀ x, q x = !p x) : l.all q = !l.any p := by
  induction l with
  | nil => rfl
  | cons x r ih => simp only [List.all_cons, List.any_cons, ih, h, Bool.not_or]

def fineI (t : Task) (s : List Int) : Int := if isB t then (if risingB s t.facts.length then 0 else 20) else 10
theorem f46_spec (t : Task) (n1 : Bool) (s : List Int) (out : List Fr) : SpecP Try.prog 46 [.task t, .ints n1 s] out fun r ro => r = .int (fineI t s) ∧ ro = [] := by
  refine spec_body cx_ok [] [] (fn := Try.f46) (by kernel_rfl) rfl (by kernel_rfl) rfl (by unfold FnOK; kernel_rfl) fun hok => ?_
  refine SpecP.mono (f63_spec t []) ?_
  rintro _ _ ⟨rfl, rfl⟩
  refine And.intro (fun h1 => ?_) fun h1 => ?_
  · refine SpecP.mono (f64_spec n1 s (t.facts.map tS).length []) ?_
    rintro _ _ ⟨rfl, rfl⟩
    rw [List.length_map]
    refine And.intro (fun h2 => ?_) fun h2 => ?_
    · exact Exists.intro [] ⟨by simp only [fineI, h1, h2]; rfl, rfl⟩
    · exact Exists.intro [] ⟨by simp only [fineI, h1, h2]; rfl, rfl⟩
  · exact Exists.intro [] ⟨by simp only [fineI, h1]; rfl, rfl⟩

/-! ### all -/
def bitAt (b : List Bool) (l : Lit) : Bool := b.getD (codeI l).toNat false
def inB (b : List Bool) (l : Lit) : Prop := big l.fact ∧ 0 ≤ codeI l ∧ codeI l < b.length
theorem bit_get {b : List Bool} {l : Lit} (h : inB b l) : (b.map tB)[(codeI l).toNat]? = some (tB (bitAt b l)) := by
  obtain ⟨_, h0, h1⟩ := h
  have : (codeI l).toNat < b.length := by omega
  simp [bitAt, this]

end Go.Fw

/- What the program's functions do, part 35: lists of actions; the state after an action. -/
namespace Go.Fw
open Go Go.Proofs
set_option maxRecDepth 10000

abbrev cellsTask (t : Task) : List LV := [.t (.sl t.fn 1 (t.facts.map tS)), .t (.sl t.ni 1 (t.init.map tI)), .t (.sl t.gn 2 (t.goal.map tLit)), .t (.sl t.an 4 (t.acts.map tAct))]

def planB (t : Task) (p : List Int) : Bool := decide (p.length ≤ 10000) && p.all fun x => decide (0 ≤ x) && decide (x < t.acts.length)
def kp15 : Kp := [(4, ([2, 10, 11, 12], [16]))]
theorem f15_spec (t : Task) (n2 : Bool) (p : List Int) (out : List Fr) : SpecP Try.prog 15 [.task t, .ints n2 p] out fun r ro => r = .bool (planB t p) ∧ ro = [] := by
  refine spec_body cx_ok kp15 [] (fn := Try.f15) (by kernel_rfl) rfl (by kernel_rfl) rfl (by unfold FnOK; kernel_rfl) fun hok => ?_
  refine And.intro (fun h1 => ?_) fun h1 => ?_
  · have h1 := of_decide_eq_true h1
    rw [List.length_map] at h1
    exact Exists.intro [] (ret_bool (by simp [planB]; omega) rfl)
  have h1 := of_decide_eq_false h1
  rw [List.length_map] at h1
  refine LoopW.mk Nat (fun i => i ≤ p.length ∧ (p.take i).all (fun x => decide (0 ≤ x) && decide (x < t.acts.length)) = true) (fun i => [(2, .ptr (.cur 16) 0), (10, .ints n2 p), (11, .int (p.map tI).length), (12, .int i)])
    (fun _ => ⟨out, [(16, .box (cellsTask t))]⟩) (fun i => p.length - i) 0 ⟨Nat.zero_le _, rfl⟩ ⟨rfl, rfl⟩ fun i hI => ?_
  refine And.intro (fun h2 => ?_) fun h2 => ?_
  · have hi := lt_of_dec h2
    have bad : (decide (0 ≤ p[i]) && decide (p[i] < t.acts.length)) = false → planB t p = false := fun h => by rw [planB, all_false hi h, Bool.and_false]
    refine And.intro (by omega) (Exists.intro _ (And.intro (get_map hi) ?_))
    refine And.intro (fun h3 => ?_) fun h3 => ?_
    · have h3 := of_decide_eq_true h3
      exact Exists.intro [] (ret_bool (bad (by simp; omega)) rfl)
    have h3 := of_decide_eq_false h3
    refine And.intro (fun h4 => ?_) fun h4 => ?_
    · have h4 := of_decide_eq_true h4
      rw [List.length_map] at h4
      exact Exists.intro [] (ret_bool (bad (by simp; omega)) rfl)
    have h4 := of_decide_eq_false h4
    rw [List.length_map] at h4
    refine And.intro (by omega) (And.intro (by omega) ?_)
    exact Exists.intro (i + 1) (And.intro (by show p.length - (i + 1) < p.length - i; omega) (And.intro ⟨hi, all_step hi hI.2 (by simp; omega)⟩ (And.intro rfl rfl)))
  · have := all_end (ge_of_dec h2) hI.2
    exact Exists.intro [] (ret_bool (by rw [planB, this]; simp; omega) rfl)

end Go.Fw

/- What the program's functions do, part 39: copies of lists, lists of actions. -/
namespace Go.Fw
open Go Go.Proofs
set_option maxRecDepth 10000

theorem vt_nil {RO : Nat → Prop} {w : World} {v : Value} {b : Bool} {sz : Nat} {es : List (List T)} (h : VT RO w (.sl b sz es) v) : b = true → es = [] := fun hb => by
  cases h <;> first | rfl | cases hb
/-- A nil argument has no elements. -/
theorem SpecP.nil_arg {P : Program} {f : Nat} {args : List LV} {out : List Fr} {Post : LV → Fr → Prop} {i : Nat} {n1 : Bool} {s : List Int} (hi : args[i]? = some (.ints n1 s)) (hfn : FnOK P f) (h : (n1 = true → s = []) → SpecP P f args out Post) : SpecP P f args out Post :=
  ⟨hfn, fun β RO w vals hw hv => (h fun hn => by
    have hl : i < vals.length := by rw [← hv.1]; exact (List.getElem?_eq_some_iff.1 hi).1
    have hx := hv.2 i _ _ hi (List.getElem?_eq_getElem hl)
    cases hx with
    | t _ _ hx => exact List.map_eq_nil_iff.1 (vt_nil hx hn)).calls β RO w vals hw hv⟩

def inA (t : Task) (x : Int) : Bool := decide (x < 0) || decide (x ≥ t.acts.length)
def kp72 : Kp := [(2, ([0, 1, 7, 8], []))]
theorem f72_spec (n1 : Bool) (l : List Int) (fc k s : Nat) (p : Int → Bool) (out : List Fr)
    (hc : ∀ x ∈ l, SpecP Try.prog fc [.int x, .ptr (.fr (k + 1) s) 0] ([] :: out) fun r ro => r = .bool (p x) ∧ ro = []) :
    SpecP Try.prog 72 [.ints n1 l, .fn fc [(.fr k s, 0)]] out fun r ro => ∃ j : Int, r = .int j ∧ decide (0 ≤ j) = l.any p ∧ ro = [] := by
  refine spec_body cx_ok kp72 [] (fn := Try.f72) (by kernel_rfl) rfl (by kernel_rfl) rfl (by unfold FnOK; kernel_rfl) fun hok => ?_
  have hmx := le_max hok.1.1
  refine LoopW.mk Nat (fun i => i ≤ l.length ∧ (l.take i).any p = false) (fun i => [(0, .ints n1 l), (1, .fn fc [(.fr k s, 0)]), (7, .int (l.map tI).length), (8, .int i)]) (fun _ => ⟨out, []⟩) (fun i => l.length - i) 0 ⟨Nat.zero_le _, rfl⟩ ⟨rfl, rfl⟩ fun i hI => ?_
  refine And.intro (fun h1 => ?_) fun h1 => ?_
  · have hi := lt_of_dec h1
    refine And.intro (by omega) (Exists.intro _ (And.intro (get_map hi) ?_))
    refine SpecP.mono (hc _ (List.getElem_mem hi)) ?_
    rintro _ _ ⟨rfl, rfl⟩
    refine And.intro trivial (And.intro trivial ?_)
    refine And.intro (fun h2 => ?_) fun h2 => ?_
    · exact Exists.intro [] ⟨_, rfl, by rw [any_true hi h2]; simp, rfl⟩
    · refine And.intro (by omega) (And.intro (by omega) ?_)
      exact Exists.intro (i + 1) (And.intro (by show l.length - (i + 1) < l.length - i; omega) (And.intro ⟨hi, any_step hi hI.2 h2⟩ (And.intro rfl rfl)))
  · exact Exists.intro [] ⟨_, rfl, by rw [any_end (ge_of_dec h1) hI.2]; rfl, rfl⟩
theorem f59_spec (n1 : Bool) (l : List Int) (fc k s : Nat) (p : Int → Bool) (out : List Fr)
    (hc : ∀ x ∈ l, SpecP Try.prog fc [.int x, .ptr (.fr (k + 2) s) 0] ([] :: [] :: out) fun r ro => r = .bool (p x) ∧ ro = []) :
    SpecP Try.prog 59 [.ints n1 l, .fn fc [(.fr k s, 0)]] out fun r ro => r = .bool (l.any p) ∧ ro = [] := by
  refine spec_body cx_ok [] [] (fn := Try.f59) (by kernel_rfl) rfl (by kernel_rfl) rfl (by unfold FnOK; kernel_rfl) fun hok => ?_
  refine SpecP.mono (f72_spec n1 l fc (k + 1) s p _ hc) ?_
  rintro _ _ ⟨j, rfl, hj, rfl⟩
  refine And.intro trivial (And.intro trivial ?_)
  refine And.intro (fun h => ?_) fun h => ?_
  · exact Exists.intro [] (ret_bool (by rw [← hj]; simpa using h) rfl)
  · exact Exists.intro [] (ret_bool (by rw [← hj]; simpa using h) rfl)
theorem f60_spec (t : Task) (x : Int) (fr0 fr1 fr2 : Fr) (out : List Fr) :
    SpecP Try.prog 60 [.int x, .ptr (.fr 2 16) 0] (fr0 :: fr1 :: ((16, .box (cellsTask t)) :: fr2) :: out) fun r ro => r = .bool (inA t x) ∧ ro = [] := by
  refine spec_body cx_ok [] [] (fn := Try.f60) (by kernel_rfl) rfl (by kernel_rfl) rfl (by unfold FnOK; kernel_rfl) fun hok => ?_
  refine And.intro (fun h1 => ?_) fun h1 => ?_
  · exact Exists.intro [] (ret_bool (by rw [inA, h1]; rfl) rfl)
  refine Exists.intro _ (And.intro rfl ?_)
  refine And.intro (fun h2 => ?_) fun h2 => ?_
  · exact Exists.intro [] (ret_bool (by rw [List.length_map] at h2; rw [inA, h1, h2]; rfl) rfl)
  · exact Exists.intro [] (ret_bool (by rw [List.length_map] at h2; rw [inA, h1, h2]; rfl) rfl)
theorem planB_any (t : Task) (p : List Int) : planB t p = (decide (p.length ≤ 10000) && !p.any (inA t)) := by
  have : (p.all fun x => decide (0 ≤ x) && decide (x < t.acts.length)) = !p.any (inA t) := by
    rw [List.not_any_eq_all_not]
    congr 1; funext x
    rw [inA, Bool.eq_iff_iff]; simp
  rw [planB, this]
theorem f37_spec (t : Task) (n2 : Bool) (p : List Int) (out : List Fr) : SpecP Try.prog 37 [.task t, .ints n2 p] out fun r ro => r = .bool (planB t p) ∧ ro = [] := by
  refine spec_body cx_ok [] [] (fn := Try.f37) (by kernel_rfl) rfl (by kernel_rfl) rfl (by unfold FnOK; kernel_rfl) fun hok => ?_
  refine And.intro (fun h1 => ?_) fun h1 => ?_
  · refine SpecP.mono (f59_spec n2 p 60 0 16 (inA t) _ (fun x _ => f60_spec t x [] [] [] out)) ?_
    rintro _ _ ⟨rfl, rfl⟩
    refine And.intro trivial (And.intro trivial ?_)
    rw [List.length_map] at h1
    have h1 := of_decide_eq_true h1
    refine And.intro (fun h => ?_) fun h => ?_
    · exact Exists.intro [] (ret_bool (by rw [planB_any, h]; simp) rfl)
    · exact Exists.intro [] (ret_bool (by rw [planB_any, h]; simp; omega) rfl)
  · rw [List.length_map] at h1
    have h1 := of_decide_eq_false h1
    exact Exists.intro [] (ret_bool (by rw [planB_any]; simp; omega) rfl)

end Go.Fw

/- What is reached: the plain law (no program in sight but for the data). -/
namespace Go.Fw
open Go Go.Proofs

inductive Rch (t : Task) (s : List Int) (cnt : Nat → Lit → Bool) : Nat → Prop
  | ini (k : Nat) (hk : k < 2 * t.facts.length) (h : (hasB s ((k / 2 : Nat) : Int) != decide (k % 2 = 1)) = true) : Rch t s cnt k
  | eff (a : Nat) (x : Actn) (e : Eff) (hx : t.acts[a]? = some x) (he : e ∈ x.effs) (hc : cnt a e.lit = true) (hp : ∀ l ∈ x.pre, Rch t s cnt (codeI l).toNat) (hw : ∀ l ∈ e.when_, Rch t s cnt (codeI l).toNat) : Rch t s cnt (codeI e.lit).toNat

structure IsR (t : Task) (s : List Int) (cnt : Nat → Lit → Bool) (b : List Bool) : Prop where
  len : b.length = 2 * t.facts.length
  iff : ∀ k, b.getD k false = true ↔ Rch t s cnt k

theorem IsR.unique {t s cnt b b'} (h : IsR t s cnt b) (h' : IsR t s cnt b') : b = b' := by
  refine List.ext_getElem (by rw [h.len, h'.len]) fun k hk hk' => ?_
  have h1 := h.iff k
  have h2 := h'.iff k
  simp only [List.getD_eq_getElem?_getD, List.getElem?_eq_getElem hk, List.getElem?_eq_getElem hk', Option.getD_some] at h1 h2
  have := h1.trans h2.symm
  cases hb : b[k] <;> cases hb' : b'[k] <;> simp [hb, hb'] at this ⊢

theorem Rch.congr {t s} {cnt cnt' : Nat → Lit → Bool} (hc : ∀ a x e, t.acts[a]? = some x → e ∈ x.effs → cnt a e.lit = cnt' a e.lit) {k : Nat} (h : Rch t s cnt k) : Rch t s cnt' k := by
  induction h with
  | ini k hk h => exact .ini k hk h
  | eff a x e hx he hcc hp hw ihp ihw => exact .eff a x e hx he (by rw [← hc a x e hx he]; exact hcc) ihp ihw
theorem IsR.congr {t s b} {cnt cnt' : Nat → Lit → Bool} (hc : ∀ a x e, t.acts[a]? = some x → e ∈ x.effs → cnt a e.lit = cnt' a e.lit) (h : IsR t s cnt b) : IsR t s cnt' b :=
  ⟨h.len, fun k => (h.iff k).trans ⟨Rch.congr hc, Rch.congr fun a x e hx he => (hc a x e hx he).symm⟩⟩

/-! ### Tasks that are valid -/
def litIn (n : Nat) (l : Lit) : Prop := 0 ≤ l.fact ∧ l.fact < n
structure TaskOK (t : Task) : Prop where
  facts : t.facts.length ≤ 200
  acts : t.acts.length ≤ 1000
  goal : ∀ l ∈ t.goal, litIn t.facts.length l
  effs : ∀ x ∈ t.acts, x.effs.length ≤ 100
  cost : ∀ x ∈ t.acts, 0 ≤ x.cost ∧ x.cost ≤ 100000
  pre : ∀ x ∈ t.acts, ∀ l ∈ x.pre, litIn t.facts.length l
  lit : ∀ x ∈ t.acts, ∀ e ∈ x.effs, litIn t.facts.length e.lit
  whn : ∀ x ∈ t.acts, ∀ e ∈ x.effs, ∀ l ∈ e.when_, litIn t.facts.length l

theorem cond_in {l : List Lit} {n : Nat} (h : condB l n = true) : ∀ x ∈ l, litIn n x := fun _ hx => rising_in h _ (List.mem_map_of_mem hx)
theorem task_ok {t : Task} (h : isB t = true) : TaskOK t := by
  simp only [isB, Bool.and_eq_true, decide_eq_true_eq] at h
  obtain ⟨⟨⟨⟨⟨⟨h1, _⟩, _⟩, h4⟩, h5⟩, h6⟩, _⟩ := h
  have ha : ∀ x ∈ t.acts, actB t.facts.length x = true := List.all_eq_true.1 h6
  have hp : ∀ x ∈ t.acts, ((0 ≤ x.cost ∧ x.cost ≤ 100000) ∧ condB x.pre t.facts.length = true) ∧ x.effs.length ≤ 100 ∧ ∀ e ∈ x.effs, effB t.facts.length e = true := fun x hx => by
    have := ha x hx
    simp only [actB, Bool.and_eq_true, decide_eq_true_eq] at this
    exact ⟨⟨⟨this.1.1.1.1, this.1.1.1.2⟩, this.1.1.2⟩, this.1.2, List.all_eq_true.1 this.2⟩
  have hq : ∀ x ∈ t.acts, ∀ e ∈ x.effs, condB e.when_ t.facts.length = true ∧ litIn t.facts.length e.lit := fun x hx e he => by
    have := (hp x hx).2.2 e he
    simp only [effB, Bool.and_eq_true, decide_eq_true_eq] at this
    exact ⟨this.1.1, this.1.2, this.2⟩
  exact ⟨h1, h5, cond_in h4, fun x hx => (hp x hx).2.1, fun x hx => (hp x hx).1.1, fun x hx => cond_in (hp x hx).1.2, fun x hx e he => (hq x hx e he).2, fun x hx e he => cond_in (hq x hx e he).1⟩

theorem litIn.inB {n : Nat} {l : Lit} {b : List Bool} (h : litIn n l) (hn : n ≤ 200) (hb : b.length = 2 * n) : inB b l := by
  obtain ⟨h0, h1⟩ := h
  refine ⟨⟨by omega, by omega⟩, ?_, ?_⟩ <;> (unfold codeI; split <;> omega)

/-! ### Bits -/
theorem getD_set {b : List Bool} {i j : Nat} {v : Bool} (hi : i < b.length) : (b.set i v).getD j false = if i = j then v else b.getD j false := by
  simp only [List.getD_eq_getElem?_getD, List.getElem?_set]
  by_cases h : i = j
  · subst h; simp [hi]
  · simp [h]
theorem getD_set_true {b : List Bool} {i j : Nat} (h : b.getD j false = true) : (b.set i true).getD j false = true := by
  by_cases hi : i < b.length
  · rw [getD_set hi]
    split
    · rfl
    · exact h
  · rw [List.set_eq_of_length_le (by omega)]; exact h
theorem falses_set {b : List Bool} {i : Nat} (hi : i < b.length) (h : b.getD i false = false) : (b.set i true).count false < b.count false := by
  have h' : b[i] = false := by simpa [hi] using h
  have hpos : 0 < b.count false := List.count_pos_iff.2 (by rw [← h']; exact List.getElem_mem hi)
  rw [List.count_set hi, h']
  simp
  omega
theorem setHas_mono {b : List Bool} {i : Nat} {l : List Lit} (h : setHas b l = true) : setHas (b.set i true) l = true := by
  rw [setHas, List.all_eq_true] at *
  exact fun x hx => getD_set_true (h x hx)

def Sound (t : Task) (s : List Int) (cnt : Nat → Lit → Bool) (b : List Bool) : Prop := ∀ k, b.getD k false = true → Rch t s cnt k
theorem Sound.has {t s cnt b} (h : Sound t s cnt b) {l : List Lit} (hl : setHas b l = true) : ∀ x ∈ l, Rch t s cnt (codeI x).toNat := fun x hx => h _ (List.all_eq_true.1 hl x hx)
theorem Sound.set {t s cnt b} (h : Sound t s cnt b) {k : Nat} (hk : Rch t s cnt k) : Sound t s cnt (b.set k true) := fun j hj => by
  by_cases hi : k < b.length
  · rw [getD_set hi] at hj
    split at hj
    · rename_i he; rw [← he]; exact hk
    · exact h j hj
  · rw [List.set_eq_of_length_le (by omega)] at hj; exact h j hj
def CloE (cnt : Nat → Lit → Bool) (b : List Bool) (a : Nat) (e : Eff) : Prop := cnt a e.lit = true → setHas b e.when_ = true → bitAt b e.lit = true
def Clo (t : Task) (cnt : Nat → Lit → Bool) (b : List Bool) (a : Nat) : Prop := ∀ x, t.acts[a]? = some x → setHas b x.pre = true → ∀ e ∈ x.effs, CloE cnt b a e
def Ini (n : Nat) (l : List Int) (b : List Bool) : Prop := b.length = 2 * n ∧ ∀ k, k < 2 * n → b.getD k false = (hasB l ((k / 2 : Nat) : Int) != decide (k % 2 = 1))

theorem isR_of {t s cnt b} (hl : b.length = 2 * t.facts.length) (hs : Sound t s cnt b) (hi : ∀ k, k < 2 * t.facts.length → (hasB s ((k / 2 : Nat) : Int) != decide (k % 2 = 1)) = true → b.getD k false = true) (hc : ∀ a, a < t.acts.length → Clo t cnt b a) : IsR t s cnt b := by
  refine ⟨hl, fun k => ⟨hs k, fun h => ?_⟩⟩
  induction h with
  | ini k hk h => exact hi k hk h
  | eff a x e hx he hcc hp hw ihp ihw =>
    exact hc a (List.getElem?_eq_some_iff.1 hx).1 x hx (List.all_eq_true.2 ihp) e he hcc (List.all_eq_true.2 ihw)

theorem Ini.sound {t s cnt b} (h : Ini t.facts.length s b) : Sound t s cnt b := fun k hk => by
  by_cases hl : k < 2 * t.facts.length
  · exact .ini k hl (by rw [← h.2 k hl]; exact hk)
  · have : b.getD k false = false := by simp only [List.getD_eq_getElem?_getD]; rw [List.getElem?_eq_none (by rw [h.1]; omega)]; rfl
    rw [this] at hk; cases hk

def Odds (n i : Nat) (b : List Bool) : Prop := b.length = 2 * n ∧ ∀ k, k < 2 * n → b.getD k false = (decide (k / 2 < i) && decide (k % 2 = 1))
theorem Odds.zero (n : Nat) : Odds n 0 (List.replicate (2 * n) false) := ⟨by simp, fun k hk => by simp [List.getD_eq_getElem?_getD, hk]⟩
theorem Odds.step {n i : Nat} {b : List Bool} (h : Odds n i b) (hi : i < n) : Odds n (i + 1) (b.set (2 * i + 1) true) := by
  refine ⟨by simp [h.1], fun k hk => ?_⟩
  rw [getD_set (by rw [h.1]; omega)]
  split
  · rename_i he; subst he
    have h1 : (2 * i + 1) / 2 < i + 1 := by omega
    have h2 : (2 * i + 1) % 2 = 1 := by omega
    simp only [h1, h2, decide_true, Bool.and_self]
  · rename_i he
    rw [h.2 k hk]
    by_cases h2 : k % 2 = 1
    · have : k / 2 < i ↔ k / 2 < i + 1 := by omega
      simp only [this]
    · simp only [h2, decide_false, Bool.and_false]
theorem Odds.ini {n : Nat} {b : List Bool} (h : Odds n n b) : Ini n [] b := ⟨h.1, fun k hk => by
  rw [h.2 k hk]
  have : k / 2 < n := by omega
  simp [this, hasB]⟩
theorem hasB_snoc (l : List Int) (f x : Int) : hasB (l ++ [f]) x = (hasB l x || f == x) := by simp [hasB, List.any_append]
theorem Ini.step {n f : Nat} {l : List Int} {b : List Bool} (h : Ini n l b) (hf : f < n) : Ini n (l ++ [(f : Int)]) ((b.set (2 * f) true).set (2 * f + 1) false) := by
  refine ⟨by simp [h.1], fun k hk => ?_⟩
  rw [getD_set (by simp [h.1]; omega), getD_set (by rw [h.1]; omega), hasB_snoc]
  by_cases h1 : 2 * f + 1 = k
  · subst h1
    have e1 : (2 * f + 1) / 2 = f := by omega
    have e2 : (2 * f + 1) % 2 = 1 := by omega
    simp [e1, e2]
  · by_cases h2 : 2 * f = k
    · subst h2
      have e1 : 2 * f / 2 = f := by omega
      have e2 : 2 * f % 2 = 0 := by omega
      simp [e1, e2]
    · rw [if_neg h1, if_neg h2, h.2 k hk]
      have : ((f : Int) == ((k / 2 : Nat) : Int)) = false := by simp; omega
      rw [this, Bool.or_false]

theorem bits_get {n : Nat} {l : List Int} (hl : ∀ x ∈ l, 0 ≤ x ∧ x < n) {f : Nat} (hf : f < n) : (bitsL n l).getD f false = hasB l f := by
  have : ∀ (l : List Int) (b : List Bool), (∀ x ∈ l, 0 ≤ x ∧ x < n) → b.length = n → (l.foldl (fun b x => b.set x.toNat true) b).getD f false = (b.getD f false || hasB l f) := by
    intro l
    induction l with
    | nil => intro b _ _; simp [hasB]
    | cons x r ih =>
      intro b hx hb
      rw [List.foldl_cons, ih _ (fun y hy => hx y (List.mem_cons_of_mem _ hy)) (by simp [hb])]
      have hx0 := hx x (List.mem_cons_self ..)
      rw [getD_set (by omega)]
      simp only [hasB, List.any_cons]
      by_cases he : x.toNat = f
      · have : (x == (f : Int)) = true := by simp; omega
        simp [he, this]
      · have : (x == (f : Int)) = false := by simp; omega
        simp [he, this]
  rw [bitsL, this l _ hl (by simp)]
  simp [List.getD_eq_getElem?_getD, hf]

def Half (n : Nat) (l : List Int) (i : Nat) (b : List Bool) : Prop := b.length = 2 * n ∧ ∀ k, k < 2 * n → b.getD k false = (decide (k / 2 < i) && (hasB l ((k / 2 : Nat) : Int) != decide (k % 2 = 1)))
theorem Half.zero (n : Nat) (l : List Int) : Half n l 0 (List.replicate (2 * n) false) := ⟨by simp, fun k hk => by simp [List.getD_eq_getElem?_getD, hk]⟩
theorem Half.step {n i : Nat} {l : List Int} {b : List Bool} (h : Half n l i b) (hi : i < n) : Half n l (i + 1) (b.set (codeI ⟨(i : Int), !hasB l i⟩).toNat true) := by
  refine ⟨by simp [h.1], fun k hk => ?_⟩
  have hc : (codeI ⟨(i : Int), !hasB l i⟩).toNat = if hasB l i = true then 2 * i else 2 * i + 1 := by
    unfold codeI
    cases hasB l i <;> simp <;> omega
  rw [hc, getD_set (by rw [h.1]; split <;> omega), h.2 k hk]
  by_cases hki : k / 2 = i
  · have h1 : k / 2 < i + 1 := by omega
    have h2 : ¬ k / 2 < i := by omega
    simp only [h1, h2, decide_true, decide_false, Bool.true_and, Bool.false_and]
    rw [hki]
    cases hb : hasB l i
    · by_cases hk1 : k % 2 = 1
      · have : 2 * i + 1 = k := by omega
        simp [this, hk1]
      · have : ¬ 2 * i + 1 = k := by omega
        simp [this, hk1]
    · by_cases hk1 : k % 2 = 1
      · have : ¬ 2 * i = k := by omega
        simp [this, hk1]
      · have : 2 * i = k := by omega
        simp [this, hk1]
  · have h1 : k / 2 < i + 1 ↔ k / 2 < i := by omega
    have h2 : ¬ (if hasB l i = true then 2 * i else 2 * i + 1) = k := by split <;> omega
    simp only [h1, h2, if_false]
theorem Half.ini {n : Nat} {l : List Int} {b : List Bool} (h : Half n l n b) : Ini n l b := ⟨h.1, fun k hk => by
  rw [h.2 k hk]
  have : k / 2 < n := by omega
  simp [this]⟩

end Go.Fw

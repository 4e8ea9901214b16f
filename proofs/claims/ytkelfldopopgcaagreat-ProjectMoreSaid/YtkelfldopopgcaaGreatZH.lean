/- Texts that lead to the law, part 8. -/
import Derived.Test.YtkelfldopopgcaaGreatZG

/- What the program's functions do, part 11: the first place of a byte; package task's names. -/
namespace Go.Fw
open Go Go.Proofs
set_option maxRecDepth 10000

def idxB (s : ByteArray) (c : Int) : Int := Lib.indexByte s.data.toList c.toNat.toUInt8
theorem f101_spec (s : ByteArray) (c : Int) (out : List Fr) : SpecP Tryz.prog 101 [.str s, .byte c] out fun r ro => r = .int (idxB s c) ∧ ro = [] := by
  refine spec_body cx_ok [] [] (fn := Tryz.f101) (by kernel_rfl) rfl (by kernel_rfl) rfl (by unfold FnOK; kernel_rfl) fun hok => ?_
  rintro _ rfl
  exact Exists.intro [] (And.intro rfl rfl)
theorem f87_spec (s : ByteArray) (c : Int) (out : List Fr) : SpecP Tryz.prog 87 [.str s, .byte c] out fun r ro => r = .int (idxB s c) ∧ ro = [] := by
  refine spec_body cx_ok [] [] (fn := Tryz.f87) (by kernel_rfl) rfl (by kernel_rfl) rfl (by unfold FnOK; kernel_rfl) fun hok => ?_
  refine SpecP.mono (f101_spec s c []) ?_
  rintro _ _ ⟨rfl, rfl⟩
  exact Exists.intro [] (And.intro rfl rfl)

theorem idx_neg (l : List UInt8) (c : UInt8) : Lib.indexByte l c < 0 ↔ ∀ b ∈ l, b ≠ c := by
  induction l with
  | nil => simp [Lib.indexByte]
  | cons b l ih =>
    have hge := Lib.indexByte_ge l c
    rw [Lib.indexByte]
    by_cases hb : b = c
    · simp [hb]
    · have : (b == c) = false := by simpa using hb
      simp only [this, Bool.false_eq_true, if_false]
      simp only [List.mem_cons, forall_eq_or_imp, ne_eq, hb, not_false_eq_true, true_and]
      rw [← show (∀ a ∈ l, a ≠ c) ↔ _ from Iff.rfl, ← ih]
      split
      · rename_i h; simp at h; omega
      · rename_i h; simp at h; omega
theorem idx_within {c : Int} (hc : ∃ b : UInt8, c = (b.toNat : Int)) : decide (idxB punct c < 0) = !withinB punct c := by
  obtain ⟨b, rfl⟩ := hc
  have h : idxB punct (b.toNat : Int) < 0 ↔ ∀ x ∈ punct.data.toList, x ≠ b := by
    unfold idxB
    rw [idx_neg]
    have : ((b.toNat : Int)).toNat.toUInt8 = b := by simp
    rw [this]
  have hw : withinB punct (b.toNat : Int) = punct.data.toList.any (· == b) := by
    have e : ∀ i, (byAt punct i == (b.toNat : Int)) = (punct.data[i]?.getD 0 == b) := by
      intro i
      rw [byAt]
      by_cases h : punct.data[i]?.getD 0 = b
      · rw [h]; simp
      · have : (punct.data[i]?.getD 0).toNat ≠ b.toNat := fun hh => h (UInt8.toNat_inj.1 hh)
        have h2 : (((punct.data[i]?.getD 0).toNat : Int) == (b.toNat : Int)) = false := by simp; omega
        have h3 : (punct.data[i]?.getD 0 == b) = false := by simpa using h
        rw [h2, h3]
    unfold withinB
    simp only [e]
    rfl
  rw [hw]
  cases hh : punct.data.toList.any (· == b) with
  | true =>
    obtain ⟨x, hx, hxb⟩ := List.any_eq_true.1 hh
    simp only [Bool.not_true, decide_eq_false_iff_not]
    rw [h]
    intro hf
    exact hf x hx (by simpa using hxb)
  | false =>
    simp only [Bool.not_false, decide_eq_true_eq]
    rw [h]
    intro x hx hxb
    have := List.any_eq_false.1 hh x hx
    simp [hxb] at this

theorem byAt_u8 (s : ByteArray) (i : Nat) : ∃ b : UInt8, byAt s i = (b.toNat : Int) := ⟨_, rfl⟩
def kp75 : Kp := [(4, ([0, 19, 20], []))]
theorem eq_empty {s : ByteArray} {b : Bool} (h : (s.toList == (⟨#[]⟩ : ByteArray).toList) = b) : b = decide (s.size = 0) := by
  rw [Lib.toList_data, Lib.toList_data] at h
  have hsz : s.size = s.data.toList.length := by rw [Array.length_toList]; rfl
  rw [← h, hsz]
  generalize s.data.toList = l
  cases l with
  | nil => rfl
  | cons _ _ => rfl
theorem f75_spec (s : ByteArray) (out : List Fr) : SpecP Tryz.prog 75 [.str s] out fun r ro => r = .bool (nameB s) ∧ ro = [] := by
  refine spec_body cx_ok kp75 [] (fn := Tryz.f75) (by kernel_rfl) rfl (by kernel_rfl) rfl (by unfold FnOK; kernel_rfl) fun hok => ?_
  refine And.intro (fun h1 => ?_) fun h1 => ?_
  · exact Exists.intro [] (ret_bool (by have h0 : s.size = 0 := of_decide_eq_true (eq_empty h1).symm; rw [nameB, h0]; rfl) rfl)
  refine And.intro (fun h2 => ?_) fun h2 => ?_
  · exact Exists.intro [] (ret_bool (by simp [nameB]; simp at h2; omega) rfl)
  have hs : 1 ≤ s.size ∧ s.size ≤ 40 := by have h0 : ¬ s.size = 0 := of_decide_eq_false (eq_empty h1).symm; simp at h2; omega
  refine And.intro (by decide) (Exists.intro _ (And.intro (byAt_get (i := 0) hs.1) ?_))
  refine SpecP.mono (f86_spec (byAt s 0) []) ?_
  rintro r ro ⟨rfl, rfl⟩
  refine And.intro (fun h3 => ?_) fun h3 => ?_
  · refine LoopW.mk Nat (fun i => i ≤ s.size ∧ (List.range i).all (fun i => okB (byAt s i)) = true) (fun i => [(0, .str s), (19, .int s.size), (20, .int i)]) (fun _ => ⟨out, []⟩) (fun i => s.size - i) 0 ⟨Nat.zero_le _, rfl⟩ ⟨rfl, rfl⟩ fun i hI => ?_
    refine And.intro (fun h4 => ?_) fun h4 => ?_
    · have hi : i < s.size := by simpa using h4
      refine And.intro (by omega) (Exists.intro _ (And.intro (byAt_get hi) ?_))
      refine SpecP.mono (f86_spec (byAt s i) []) ?_
      rintro r ro ⟨rfl, rfl⟩
      have next : okB (byAt s i) = true → ∀ {p : Prop}, ((s.size - (i + 1) < s.size - i) → (i + 1 ≤ s.size ∧ (List.range (i + 1)).all (fun i => okB (byAt s i)) = true) → p) → p := fun h _ hp => hp (by omega) ⟨hi, range_step hI.2 h⟩
      refine And.intro (fun h5 => ?_) fun h5 => ?_
      · refine And.intro (by omega) (And.intro (by omega) ?_)
        exact Exists.intro (i + 1) (And.intro (by show s.size - (i + 1) < s.size - i; omega) (And.intro ⟨hi, range_step hI.2 (by simp [okB, h5])⟩ (And.intro rfl rfl)))
      · have hd : ∀ b, okB (byAt s i) = b → decide (48 ≤ byAt s i) = true ∧ decide (byAt s i ≤ 57) = true → b = true := fun b hb ⟨g1, g2⟩ => by rw [← hb]; simp only [okB, digitB, g1, g2]; simp
        refine And.intro (fun h6 => ?_) fun h6 => ?_
        · refine SpecP.mono (f87_spec punct (byAt s i) []) ?_
          rintro r ro ⟨rfl, rfl⟩
          have hx := idx_within (byAt_u8 s i)
          have hdig : digitB (byAt s i) = false := by have g6 : byAt s i < 48 := of_decide_eq_true h6; simp only [digitB, Bool.and_eq_false_iff, decide_eq_false_iff_not]; omega
          refine And.intro (fun h7 => ?_) fun h7 => ?_
          · rw [h7] at hx
            exact Exists.intro [] (ret_bool (by rw [nameB, range_false hi (by simp at hx; simp [okB, h5, hdig, hx])]; simp) rfl)
          · rw [h7] at hx
            refine And.intro (by omega) (And.intro (by omega) ?_)
            exact Exists.intro (i + 1) (And.intro (by show s.size - (i + 1) < s.size - i; omega) (And.intro ⟨hi, range_step hI.2 (by simp at hx; simp [okB, hx])⟩ (And.intro rfl rfl)))
        · refine And.intro (fun h8 => ?_) fun h8 => ?_
          · refine SpecP.mono (f87_spec punct (byAt s i) []) ?_
            rintro r ro ⟨rfl, rfl⟩
            have hx := idx_within (byAt_u8 s i)
            have hdig : digitB (byAt s i) = false := by have g8 : byAt s i > 57 := of_decide_eq_true h8; simp only [digitB, Bool.and_eq_false_iff, decide_eq_false_iff_not]; omega
            refine And.intro (fun h7 => ?_) fun h7 => ?_
            · rw [h7] at hx
              exact Exists.intro [] (ret_bool (by rw [nameB, range_false hi (by simp at hx; simp [okB, h5, hdig, hx])]; simp) rfl)
            · rw [h7] at hx
              refine And.intro (by omega) (And.intro (by omega) ?_)
              exact Exists.intro (i + 1) (And.intro (by show s.size - (i + 1) < s.size - i; omega) (And.intro ⟨hi, range_step hI.2 (by simp at hx; simp [okB, hx])⟩ (And.intro rfl rfl)))
          · have hdig : digitB (byAt s i) = true := by have g6 : ¬ byAt s i < 48 := of_decide_eq_false h6; have g8 : ¬ byAt s i > 57 := of_decide_eq_false h8; simp only [digitB, Bool.and_eq_true, decide_eq_true_eq]; omega
            refine And.intro (by omega) (And.intro (by omega) ?_)
            exact Exists.intro (i + 1) (And.intro (by show s.size - (i + 1) < s.size - i; omega) (And.intro ⟨hi, range_step hI.2 (by simp [okB, hdig])⟩ (And.intro rfl rfl)))
    · have hi : i = s.size := by have := hI.1; simp at h4; omega
      have h5 := hI.2
      rw [hi] at h5
      exact Exists.intro [] (ret_bool (by rw [nameB, h5, h3]; simp; omega) rfl)
  · exact Exists.intro [] (ret_bool (by simp [nameB, h3]) rfl)

end Go.Fw

/- What the program's functions do, part 12: Few: it comes back; its sums may wrap. -/
namespace Go.Fw
open Go Go.Proofs
set_option maxRecDepth 10000

theorem wrap64 {n : Int} (h : -9223372036854775808 ≤ n) (h2 : n ≤ 9223372036854775807) : IntKind.i64.wrap n = n := wrap_in h h2
theorem ret_any {b : Bool} {ro : Fr} (h2 : ro = []) : ∃ c : Bool, LV.t (.v (.bool b)) = .bool c ∧ ro = [] := ⟨b, rfl, h2⟩

def kp5 : Kp := [(5, ([1, 2, 5, 31, 32, 33], [16])), (11, ([1, 5, 43, 44, 45], [])), (17, ([1, 5, 43, 44, 45, 69, 70, 71], []))]
theorem f5_spec (t : Task) (most : Int) (out : List Fr) : SpecP Tryz.prog 5 [.task t, .int most] out fun r ro => ∃ b : Bool, r = .bool b ∧ ro = [] := by
  refine spec_body cxw_ok kp5 [] (fn := Tryz.f5) (by kernel_rfl) rfl (by kernel_rfl) rfl (by unfold FnOK; kernel_rfl) fun hok => ?_
  have hfm := le_max hok.1.1.1
  have ham := le_max hok.1.2.2.2.1.1
  have hae : ∀ a ∈ t.acts, (a.effs.length : Int) ≤ 9223372036854775807 := fun a ha => by
    have h1 := hok.1.2.2.2.1.2
    have h2 := okEs_iff.1 h1 (tAct a) (List.mem_map_of_mem ha) (.sl a.en 3 (a.effs.map tEff)) (by simp [tAct])
    exact le_max h2.1
  intro m1 _ m2 _ m3 _
  refine And.intro (fun h1 => ?_) fun h1 => ?_
  · exact Exists.intro [] (ret_any rfl)
  refine LoopW.mk Nat (fun i => i ≤ t.facts.length) (fun i => [(1, .int most), (2, .ptr (.cur 16) 0), (5, .int m3), (31, .t (.sl t.fn 1 (t.facts.map tS))), (32, .int (t.facts.map tS).length), (33, .int i)])
    (fun _ => ⟨out, [(16, .box [.t (.sl t.fn 1 (t.facts.map tS)), .t (.sl t.ni 1 (t.init.map tI)), .t (.sl t.gn 2 (t.goal.map tLit)), .t (.sl t.an 4 (t.acts.map tAct))])]⟩) (fun i => t.facts.length - i) 0 (Nat.zero_le _) ⟨rfl, rfl⟩ fun i hI => ?_
  refine And.intro (fun h2 => ?_) fun h2 => ?_
  · have hi := lt_of_dec h2
    refine And.intro (by omega) (Exists.intro _ (And.intro (get_map hi) ?_))
    refine And.intro (fun h3 => ?_) fun h3 => ?_
    · exact Exists.intro [] (ret_any rfl)
    · intro m hm
      rw [wrap64 (by omega) (by omega)] at hm
      subst hm
      exact Exists.intro (i + 1) (And.intro (by show t.facts.length - (i + 1) < t.facts.length - i; omega) (And.intro hi (And.intro rfl rfl)))
  refine LoopW.mk (Nat × Int) (fun p => p.1 ≤ t.acts.length) (fun p => [(1, .int most), (5, .int p.2), (43, .t (.sl t.an 4 (t.acts.map tAct))), (44, .int (t.acts.map tAct).length), (45, .int p.1)])
    (fun _ => ⟨out, []⟩) (fun p => t.acts.length - p.1) (0, m3) (Nat.zero_le _) ⟨rfl, rfl⟩ ?_
  rintro ⟨j, n⟩ hJ
  simp only at hJ
  refine And.intro (fun h4 => ?_) fun h4 => ?_
  · have hj : j < t.acts.length := lt_of_dec h4
    refine And.intro (by omega) (Exists.intro _ (And.intro (get_map hj) ?_))
    intro n1 _ n2 _
    have hel := hae _ (List.getElem_mem hj)
    have loop : ∀ {p : Prop}, p → p := fun h => h
    refine And.intro (fun h5 => ?_) fun h5 => ?_
    · exact Exists.intro [] (ret_any rfl)
    refine And.intro (fun h6 => ?_) fun h6 => ?_
    · exact Exists.intro [] (ret_any rfl)
    refine LoopW.mk (Nat × Int) (fun p => p.1 ≤ t.acts[j].effs.length) (fun p => [(1, .int most), (5, .int p.2), (43, .t (.sl t.an 4 (t.acts.map tAct))), (44, .int (t.acts.map tAct).length), (45, .int j), (69, .t (.sl t.acts[j].en 3 (t.acts[j].effs.map tEff))), (70, .int (t.acts[j].effs.map tEff).length), (71, .int p.1)])
      (fun _ => ⟨out, []⟩) (fun p => t.acts[j].effs.length - p.1) (0, n2) (Nat.zero_le _) ⟨rfl, rfl⟩ ?_
    rintro ⟨k, q⟩ hK
    simp only at hK
    refine And.intro (fun h7 => ?_) fun h7 => ?_
    · have hk : k < t.acts[j].effs.length := lt_of_dec h7
      refine And.intro (by omega) (Exists.intro _ (And.intro (get_map hk) ?_))
      intro q1 _ m hm
      rw [wrap64 (by omega) (by omega)] at hm
      subst hm
      exact Exists.intro (k + 1, q1) (And.intro (by show t.acts[j].effs.length - (k + 1) < t.acts[j].effs.length - k; omega) (And.intro hk (And.intro rfl rfl)))
    · intro m hm
      rw [wrap64 (by omega) (by omega)] at hm
      subst hm
      exact Exists.intro (j + 1, q) (And.intro (by show t.acts.length - (j + 1) < t.acts.length - j; omega) (And.intro hj (And.intro rfl rfl)))
  · refine And.intro (fun h8 => ?_) fun h8 => ?_
    · exact Exists.intro [] (ret_any rfl)
    · exact Exists.intro [] (ret_any rfl)
end Go.Fw

/- What the program's functions do, part 13: Valid. -/
namespace Go.Fw
open Go Go.Proofs
set_option maxRecDepth 10000

def kp59 : Kp := [(6, ([1, 3, 4, 38, 39, 40], [8, 288])), (14, ([3, 4, 57, 58, 59], [440])), (20, ([3, 4, 57, 58, 59, 100, 101, 102], [440]))]
theorem f59_spec (t : Task) (out : List Fr) : SpecP Tryz.prog 59 [.task t] out fun r ro => r = .bool (isB t) ∧ ro = [] := by
  refine spec_body cx_ok kp59 [] (fn := Tryz.f59) (by kernel_rfl) rfl (by kernel_rfl) rfl (by unfold FnOK; kernel_rfl) fun hok => ?_
  have hfm := le_max hok.1.1.1
  have ham := le_max hok.1.2.2.2.1.1
  refine And.intro (fun h1 => ?_) fun h1 => ?_
  · exact Exists.intro [] (ret_bool (by simp at h1; simp [isB]; omega) rfl)
  refine And.intro (fun h2 => ?_) fun h2 => ?_
  · exact Exists.intro [] (ret_bool (by simp at h2; simp [isB]; omega) rfl)
  refine SpecP.mono (f66_spec t.ni t.init (t.facts.map tS).length []) ?_
  rintro _ _ ⟨rfl, rfl⟩
  rw [List.length_map]
  refine And.intro (fun h3 => ?_) fun h3 => ?_
  rotate_left
  · exact Exists.intro [] (ret_bool (by simp [isB, h3]) rfl)
  refine SpecP.mono (f74_spec t.gn t.goal t.facts.length []) ?_
  rintro _ _ ⟨rfl, rfl⟩
  refine And.intro (fun h4 => ?_) fun h4 => ?_
  rotate_left
  · exact Exists.intro [] (ret_bool (by simp [isB, h4]) rfl)
  have hl1 : t.facts.length ≤ 200 := by simp at h1; omega
  have hl2 : t.acts.length ≤ 1000 := by simp at h2; omega
  refine LoopW.mk Nat (fun i => i ≤ t.facts.length ∧ (List.range i).all (chkS t.facts) = true)
    (fun i => [(1, .ptr (.cur 8) 0), (3, .int t.facts.length), (4, .mpr (.cur 288)), (38, .t (.sl t.fn 1 (t.facts.map tS))), (39, .int (t.facts.map tS).length), (40, .int i)])
    (fun i => ⟨out, [(8, .box [.t (.sl t.fn 1 (t.facts.map tS)), .t (.sl t.ni 1 (t.init.map tI)), .t (.sl t.gn 2 (t.goal.map tLit)), .t (.sl t.an 4 (t.acts.map tAct))]), (288, .mp .str (kvS (t.facts.take i)))]⟩) (fun i => t.facts.length - i) 0 ⟨Nat.zero_le _, rfl⟩ ⟨rfl, rfl⟩ fun i hI => ?_
  refine And.intro (fun h5 => ?_) fun h5 => ?_
  · have hi := lt_of_dec h5
    have ha : atS t.facts i = t.facts[i] := by simp [atS, hi]
    have hno : chkS t.facts i = false → isB t = false := fun h => by
      have : namesB t.facts = false := range_false hi h
      simp [isB, this]
    refine And.intro (by omega) (Exists.intro _ (And.intro (get_map hi) ?_))
    refine SpecP.mono (f75_spec t.facts[i] []) ?_
    rintro _ _ ⟨rfl, rfl⟩
    refine And.intro (fun h6 => ?_) fun h6 => ?_
    · refine Exists.intro _ (And.intro (look_kvS _ _) ?_)
      refine And.intro (fun h7 => ?_) fun h7 => ?_
      · exact Exists.intro [] (ret_bool (hno (by simp only [chkS, ha, h7]; simp)) rfl)
      · refine And.intro (by omega) (And.intro (by omega) ?_)
        refine Exists.intro (i + 1) (And.intro (by show t.facts.length - (i + 1) < t.facts.length - i; omega) (And.intro ⟨hi, range_step hI.2 (by simp only [chkS, ha, h6, h7]; simp)⟩ (And.intro rfl ?_)))
        have e : updKV (.string t.facts[i]) (.v (.bool true)) (kvS (t.facts.take i)) = kvS (t.facts.take (i + 1)) := by
          rw [upd_kvS _ _ h7, List.take_add_one]; simp [hi]
        show (⟨out, [_, (288, .mp .str (updKV (.string t.facts[i]) (.v (.bool true)) (kvS (t.facts.take i))))]⟩ : St) = _
        rw [e]
    · exact Exists.intro [] (ret_bool (hno (by simp only [chkS, ha, h6]; simp)) rfl)
  have hi : i = t.facts.length := by have := hI.1; have := ge_of_dec h5; omega
  have hnf : namesB t.facts = true := by have := hI.2; rw [hi] at this; exact this
  clear hI h5
  have hln : (t.acts.map (·.name)).length = t.acts.length := List.length_map ..
  refine LoopW.mk Nat (fun i => i ≤ t.acts.length ∧ (List.range i).all (chkS (t.acts.map (·.name))) = true ∧ (t.acts.take i).all (actB t.facts.length) = true)
    (fun i => [(3, .int t.facts.length), (4, .mpr (.cur 440)), (57, .t (.sl t.an 4 (t.acts.map tAct))), (58, .int (t.acts.map tAct).length), (59, .int i)])
    (fun i => ⟨out, [(440, .mp .str (kvS ((t.acts.map (·.name)).take i)))]⟩) (fun i => t.acts.length - i) 0 ⟨Nat.zero_le _, rfl, rfl⟩ ⟨rfl, rfl⟩ ?_
  intro i ⟨hi0, hnm, hall⟩
  refine And.intro (fun h6 => ?_) fun h6 => ?_
  · have hi : i < t.acts.length := lt_of_dec h6
    have hi' : i < (t.acts.map (·.name)).length := by rw [hln]; exact hi
    have ha : atS (t.acts.map (·.name)) i = t.acts[i].name := by simp [atS, hi]
    have hno : chkS (t.acts.map (·.name)) i = false → isB t = false := fun h => by
      have : namesB (t.acts.map (·.name)) = false := range_false hi' h
      simp [isB, this]
    have hact : ∀ (h : actB t.facts.length t.acts[i] = false), isB t = false := fun h => by simp [isB, all_false hi h]
    refine And.intro (by omega) (Exists.intro _ (And.intro (get_map hi) ?_))
    refine SpecP.mono (f75_spec t.acts[i].name []) ?_
    rintro _ _ ⟨rfl, rfl⟩
    refine And.intro (fun h7 => ?_) fun h7 => ?_
    rotate_left
    · exact Exists.intro [] (ret_bool (hno (by simp only [chkS, ha, h7]; simp)) rfl)
    refine Exists.intro _ (And.intro (look_kvS _ _) ?_)
    refine And.intro (fun h8 => ?_) fun h8 => ?_
    · exact Exists.intro [] (ret_bool (hno (by simp only [chkS, ha, h8]; simp)) rfl)
    refine And.intro (fun h9 => ?_) fun h9 => ?_
    · exact Exists.intro [] (ret_bool (hact (by simp at h9; simp [actB]; omega)) rfl)
    refine And.intro (fun h10 => ?_) fun h10 => ?_
    · exact Exists.intro [] (ret_bool (hact (by simp at h10; simp [actB]; omega)) rfl)
    refine SpecP.mono (f74_spec t.acts[i].pn t.acts[i].pre t.facts.length []) ?_
    rintro _ _ ⟨rfl, rfl⟩
    refine And.intro (fun h11 => ?_) fun h11 => ?_
    rotate_left
    · exact Exists.intro [] (ret_bool (hact (by simp [actB, h11])) rfl)
    refine And.intro (fun h12 => ?_) fun h12 => ?_
    · exact Exists.intro [] (ret_bool (hact (by simp at h12; simp [actB]; omega)) rfl)
    have hel : t.acts[i].effs.length ≤ 100 := by simp at h12; omega
    have e : updKV (.string t.acts[i].name) (.v (.bool true)) (kvS ((t.acts.map (·.name)).take i)) = kvS ((t.acts.map (·.name)).take (i + 1)) := by
      rw [upd_kvS _ _ h8, List.take_add_one]; simp [hi]
    refine LoopW.mk Nat (fun j => j ≤ t.acts[i].effs.length ∧ (t.acts[i].effs.take j).all (effB t.facts.length) = true)
      (fun j => [(3, .int t.facts.length), (4, .mpr (.cur 440)), (57, .t (.sl t.an 4 (t.acts.map tAct))), (58, .int (t.acts.map tAct).length), (59, .int i), (100, .t (.sl t.acts[i].en 3 (t.acts[i].effs.map tEff))), (101, .int (t.acts[i].effs.map tEff).length), (102, .int j)])
      (fun j => ⟨out, [(440, .mp .str (kvS ((t.acts.map (·.name)).take (i + 1))))]⟩) (fun j => t.acts[i].effs.length - j) 0 ⟨Nat.zero_le _, rfl⟩ ⟨rfl, by rw [← e]; rfl⟩ fun j hJ => ?_
    refine And.intro (fun k1 => ?_) fun k1 => ?_
    · have hj : j < t.acts[i].effs.length := lt_of_dec k1
      have heff : ∀ (h : effB t.facts.length t.acts[i].effs[j] = false), isB t = false := fun h => hact (by simp [actB, all_false hj h])
      refine And.intro (by omega) (Exists.intro _ (And.intro (get_map hj) ?_))
      refine SpecP.mono (f74_spec t.acts[i].effs[j].nil t.acts[i].effs[j].when_ t.facts.length []) ?_
      rintro _ _ ⟨rfl, rfl⟩
      refine And.intro (fun k2 => ?_) fun k2 => ?_
      rotate_left
      · exact Exists.intro [] (ret_bool (heff (by simp [effB, k2])) rfl)
      refine And.intro (fun k3 => ?_) fun k3 => ?_
      · exact Exists.intro [] (ret_bool (heff (by simp at k3; simp [effB]; omega)) rfl)
      refine And.intro (fun k4 => ?_) fun k4 => ?_
      · exact Exists.intro [] (ret_bool (heff (by simp at k4; simp [effB]; omega)) rfl)
      refine And.intro (by omega) (And.intro (by omega) ?_)
      exact Exists.intro (j + 1) (And.intro (by show t.acts[i].effs.length - (j + 1) < t.acts[i].effs.length - j; omega) (And.intro ⟨hj, all_step hj hJ.2 (by simp at k3 k4; simp [effB, k2]; omega)⟩ (And.intro rfl rfl)))
    · have he : t.acts[i].effs.all (effB t.facts.length) = true := all_end (ge_of_dec k1) hJ.2
      have hb : actB t.facts.length t.acts[i] = true := by simp at h9 h10 h12; simp [actB, h11, he]; omega
      refine And.intro (by omega) (And.intro (by omega) ?_)
      exact Exists.intro (i + 1) (And.intro (by show t.acts.length - (i + 1) < t.acts.length - i; omega) (And.intro ⟨hi, range_step hnm (by simp only [chkS, ha, h7, h8]; simp), all_step hi hall hb⟩ (And.intro rfl rfl)))
  · have hi : i = t.acts.length := by have := ge_of_dec h6; omega
    have hn2 : namesB (t.acts.map (·.name)) = true := by unfold namesB; rw [hln, ← hi]; exact hnm
    rw [hi, List.take_length] at hall
    exact Exists.intro [] (ret_bool (by simp [isB, h3, h4, hl1, hl2, hall, hnf, hn2]) rfl)

end Go.Fw

/- What the program's functions do, part 14: binary search; functions that take functions. -/
namespace Go.Fw
open Go Go.Proofs
set_option maxRecDepth 10000

theorem f102_spec (x : Int) (out : List Fr) : SpecP Tryz.prog 102 [.int x] out fun r ro => r = .bool false ∧ ro = [] := by
  refine spec_body cx_ok [] [] (fn := Tryz.f102) (by kernel_rfl) rfl (by kernel_rfl) rfl (by unfold FnOK; kernel_rfl) fun hok => ?_
  refine And.intro (fun h => ?_) fun h => ?_
  · simp at h
  · exact Exists.intro [] (ret_bool rfl rfl)
theorem f90_spec (x : Int) (out : List Fr) : SpecP Tryz.prog 90 [.int x] out fun r ro => r = .bool false ∧ ro = [] := by
  refine spec_body cx_ok [] [] (fn := Tryz.f90) (by kernel_rfl) rfl (by kernel_rfl) rfl (by unfold FnOK; kernel_rfl) fun hok => ?_
  refine And.intro (fun h => ?_) fun h => ?_
  · simp at h
  · exact Exists.intro [] (ret_bool rfl rfl)
theorem f89_spec (x y : Int) (out : List Fr) : SpecP Tryz.prog 89 [.int x, .int y] out fun r ro => r = .bool (decide (x < y)) ∧ ro = [] := by
  refine spec_body cx_ok [] [] (fn := Tryz.f89) (by kernel_rfl) rfl (by kernel_rfl) rfl (by unfold FnOK; kernel_rfl) fun hok => ?_
  refine SpecP.mono (f102_spec x []) ?_
  rintro _ _ ⟨rfl, rfl⟩
  refine And.intro (fun h => Bool.noConfusion h) fun _ => ?_
  refine And.intro (fun h => ?_) fun h => ?_
  · exact Exists.intro [] (ret_bool h rfl)
  · exact Exists.intro [] (ret_bool h rfl)

theorem rising_lt {l : List Int} {n : Int} (h : risingB l n = true) : ∀ j i (hj : j < l.length) (hi : i < j), l[i]'(by omega) < l[j] := by
  have hs : ∀ i, i < l.length → chkI l n i = true := fun i hi => List.all_eq_true.1 h i (List.mem_range.2 hi)
  intro j
  induction j with
  | zero => intro i _ hi; omega
  | succ j ih =>
    intro i hj hi
    have h1 := hs (j + 1) hj
    simp only [chkI, Bool.and_eq_true, Bool.or_eq_true, decide_eq_true_eq, beq_iff_eq] at h1
    have h2 : l[j]'(by omega) < l[j + 1] := by
      rcases h1.2 with h1 | h1
      · omega
      · rw [Nat.add_sub_cancel] at h1
        rwa [at0_eq hj, at0_eq (show j < l.length by omega)] at h1
    rcases Nat.lt_or_ge i j with hij | hij
    · exact Int.lt_trans (ih i (by omega) hij) h2
    · have : i = j := by omega
      subst this; exact h2
theorem rising_in {l : List Int} {n : Int} (h : risingB l n = true) : ∀ x ∈ l, 0 ≤ x ∧ x < n := fun x hx => by
  obtain ⟨i, hi, rfl⟩ := List.getElem_of_mem hx
  have := List.all_eq_true.1 h i (List.mem_range.2 hi)
  simp only [chkI, Bool.and_eq_true, decide_eq_true_eq, at0_eq hi] at this
  exact this.1

theorem rising_len {l : List Int} {n : Int} (h : risingB l n = true) (hn : n ≤ 1000000000) : l.length ≤ 1000000000 := by
  have key : ∀ i (hi : i < l.length), (i : Int) ≤ l[i] := by
    intro i
    induction i with
    | zero => intro hi; exact (rising_in h _ (List.getElem_mem hi)).1
    | succ i ih => intro hi; have := ih (by omega); have := rising_lt h (i + 1) i hi (by omega); omega
  rcases Nat.eq_zero_or_pos l.length with h0 | h0
  · omega
  · have h1 := key (l.length - 1) (by omega)
    have h2 := (rising_in h _ (List.getElem_mem (show l.length - 1 < l.length by omega))).2
    omega
def kp80 : Kp := [(3, ([0, 1, 6, 7, 8], []))]
theorem f80_spec (n1 : Bool) (l : List Int) (n x : Int) (hs : risingB l n = true) (hn : n ≤ 1000000000) (out : List Fr) :
    SpecP Tryz.prog 80 [.ints n1 l, .int x] out fun r ro => ∃ p : Int, r = .tup [.int p, .bool (hasB l x)] ∧ ro = [] := by
  refine spec_body cx_ok kp80 [] (fn := Tryz.f80) (by kernel_rfl) rfl (by kernel_rfl) rfl (by unfold FnOK; kernel_rfl) fun hok => ?_
  have hmx := le_max hok.1.1
  have hlt := rising_lt hs
  have hln := rising_len hs hn
  refine LoopW.mk (Nat × Nat) (fun p => p.1 ≤ p.2 ∧ p.2 ≤ l.length ∧ (∀ i (h : i < l.length), i < p.1 → l[i] < x) ∧ (∀ i (h : i < l.length), p.2 ≤ i → x ≤ l[i]))
    (fun p => [(0, .ints n1 l), (1, .int x), (6, .int (l.map tI).length), (7, .int p.1), (8, .int p.2)]) (fun _ => ⟨out, []⟩) (fun p => p.2 - p.1) (0, (l.map tI).length) ⟨Nat.zero_le _, by simp, fun i _ h => by omega, fun i h h2 => by simp at h2; omega⟩ ⟨rfl, rfl⟩ ?_
  rintro ⟨a, b⟩ ⟨hab, hbl, h1, h2⟩
  simp only at hab hbl h1 h2
  refine And.intro (fun k1 => ?_) fun k1 => ?_
  · have hlt' : a < b := by simpa using k1
    refine And.intro (by omega) (And.intro (by omega) (And.intro (by omega) (And.intro (by omega) (And.intro (by omega) (And.intro rfl (And.intro (by omega) (And.intro (by omega) (And.intro (by omega) (And.intro (by omega) ?_)))))))))
    have hm : ((a : Int) + b) / 2 = ((a + b) / 2 : Nat) := by omega
    rw [hm]
    have hml : (a + b) / 2 < l.length := by omega
    refine And.intro (by omega) (Exists.intro _ (And.intro (get_map hml) ?_))
    refine SpecP.mono (f89_spec _ _ []) ?_
    rintro _ _ ⟨rfl, rfl⟩
    refine And.intro (fun k2 => ?_) fun k2 => ?_
    · refine And.intro (by omega) (And.intro (by omega) ?_)
      refine Exists.intro ((a + b) / 2 + 1, b) (And.intro (by show b - ((a + b) / 2 + 1) < b - a; omega) (And.intro ⟨by show (a + b) / 2 + 1 ≤ b; omega, hbl, fun i hi hia => ?_, h2⟩ (And.intro rfl rfl)))
      have hia : i < (a + b) / 2 + 1 := hia
      have k2 : l[(a + b) / 2] < x := by simpa using k2
      rcases Nat.lt_or_ge i ((a + b) / 2) with hj | hj
      · exact Int.lt_trans (hlt _ i hml hj) k2
      · have : i = (a + b) / 2 := by omega
        subst this; exact k2
    · refine Exists.intro (a, (a + b) / 2) (And.intro (by show (a + b) / 2 - a < b - a; omega) (And.intro ⟨by show a ≤ (a + b) / 2; omega, by show (a + b) / 2 ≤ l.length; omega, h1, fun i hi hia => ?_⟩ (And.intro rfl rfl)))
      have hia : (a + b) / 2 ≤ i := hia
      have k2 : x ≤ l[(a + b) / 2] := by simpa using k2
      rcases Nat.lt_or_ge ((a + b) / 2) i with hj | hj
      · have := hlt i _ hi hj; omega
      · have : i = (a + b) / 2 := by omega
        subst this; exact k2
  · have hba : a = b := by simp at k1; omega
    subst hba
    refine And.intro (fun k2 => ?_) fun k2 => ?_
    · have hal : a < l.length := by simpa using k2
      refine And.intro (by omega) (Exists.intro _ (And.intro (get_map hal) ?_))
      refine And.intro (fun k3 => ?_) fun k3 => ?_
      · have hh : hasB l x = true := any_true hal (by simpa using k3)
        rw [hh]
        exact Exists.intro [] ⟨_, rfl, rfl⟩
      · have hh : hasB l x = false := by
          cases hb : hasB l x with
          | false => rfl
          | true =>
            obtain ⟨y, hy, hyx⟩ := List.any_eq_true.1 hb
            obtain ⟨i, hi, rfl⟩ := List.getElem_of_mem hy
            have hyx : l[i] = x := by simpa using hyx
            have k3 : ¬ l[a] = x := by simpa using k3
            rcases Nat.lt_trichotomy i a with g | g | g
            · have := h1 i hi g; omega
            · subst g; exact absurd hyx k3
            · have := h2 a hal (Nat.le_refl _); have := hlt i a hi g; omega
        refine And.intro (by omega) (Exists.intro _ (And.intro (get_map hal) ?_))
        refine SpecP.mono (f90_spec _ []) ?_
        rintro _ _ ⟨rfl, rfl⟩
        refine And.intro (fun h => Bool.noConfusion h) fun _ => ?_
        rw [hh]
        exact Exists.intro [] ⟨_, rfl, rfl⟩
    · have hal : l.length ≤ a := by simpa using k2
      have hh : hasB l x = false := by
        cases hb : hasB l x with
        | false => rfl
        | true =>
          obtain ⟨y, hy, hyx⟩ := List.any_eq_true.1 hb
          obtain ⟨i, hi, rfl⟩ := List.getElem_of_mem hy
          have hyx : l[i] = x := by simpa using hyx
          have := h1 i hi (by omega); omega
      rw [hh]
      exact Exists.intro [] ⟨_, rfl, rfl⟩

theorem f70_spec (n1 : Bool) (l : List Int) (n x : Int) (hs : risingB l n = true) (hn : n ≤ 1000000000) (out : List Fr) : SpecP Tryz.prog 70 [.ints n1 l, .int x] out fun r ro => r = .bool (hasB l x) ∧ ro = [] := by
  refine spec_body cx_ok [] [] (fn := Tryz.f70) (by kernel_rfl) rfl (by kernel_rfl) rfl (by unfold FnOK; kernel_rfl) fun hok => ?_
  refine SpecP.mono (f80_spec n1 l n x hs hn []) ?_
  rintro _ _ ⟨p, rfl, rfl⟩
  refine And.intro (fun h => ?_) fun h => ?_
  · exact Exists.intro [] (ret_bool h rfl)
  · exact Exists.intro [] (ret_bool h rfl)

end Go.Fw

/- What the program's functions do, part 15: functions that take functions; True, Fine, all. -/
namespace Go.Fw
open Go Go.Proofs
set_option maxRecDepth 10000

def kp79 : Kp := [(2, ([0, 1, 7, 8], []))]
theorem f79_spec (n1 : Bool) (l : List Lit) (fc k s : Nat) (p : Lit → Bool) (out : List Fr)
    (hc : ∀ x ∈ l, SpecP Tryz.prog fc [.lit x, .ptr (.fr (k + 1) s) 0] ([] :: out) fun r ro => r = .bool (p x) ∧ ro = []) :
    SpecP Tryz.prog 79 [.lits n1 l, .fn fc [(.fr k s, 0)]] out fun r ro => ∃ j : Int, r = .int j ∧ decide (0 ≤ j) = l.any p ∧ ro = [] := by
  refine spec_body cx_ok kp79 [] (fn := Tryz.f79) (by kernel_rfl) rfl (by kernel_rfl) rfl (by unfold FnOK; kernel_rfl) fun hok => ?_
  have hmx := le_max hok.1.1
  refine LoopW.mk Nat (fun i => i ≤ l.length ∧ (l.take i).any p = false) (fun i => [(0, .lits n1 l), (1, .fn fc [(.fr k s, 0)]), (7, .int (l.map tLit).length), (8, .int i)]) (fun _ => ⟨out, []⟩) (fun i => l.length - i) 0 ⟨Nat.zero_le _, rfl⟩ ⟨rfl, rfl⟩ fun i hI => ?_
  refine And.intro (fun h1 => ?_) fun h1 => ?_
  · have hi := lt_of_dec h1
    refine And.intro (by omega) (Exists.intro _ (And.intro (get_map hi) ?_))
    refine SpecP.mono (hc _ (List.getElem_mem hi)) ?_
    rintro _ _ ⟨rfl, rfl⟩
    refine And.intro trivial (And.intro trivial ?_)
    refine And.intro (fun h2 => ?_) fun h2 => ?_
    · exact Exists.intro [] ⟨_, rfl, by rw [any_true hi h2]; simp, rfl⟩
    · refine And.intro (by omega) (And.intro (by omega) ?_)
      exact Exists.intro (i + 1) (And.intro (by show l.length - (i + 1) < l.length - i; omega) (And.intro ⟨hi, any_step hi hI.2 h2⟩ (And.intro rfl rfl)))
  · exact Exists.intro [] ⟨_, rfl, by rw [any_end (ge_of_dec h1) hI.2]; rfl, rfl⟩

theorem f68_spec (n1 : Bool) (l : List Lit) (fc k s : Nat) (p : Lit → Bool) (out : List Fr)
    (hc : ∀ x ∈ l, SpecP Tryz.prog fc [.lit x, .ptr (.fr (k + 2) s) 0] ([] :: [] :: out) fun r ro => r = .bool (p x) ∧ ro = []) :
    SpecP Tryz.prog 68 [.lits n1 l, .fn fc [(.fr k s, 0)]] out fun r ro => r = .bool (l.any p) ∧ ro = [] := by
  refine spec_body cx_ok [] [] (fn := Tryz.f68) (by kernel_rfl) rfl (by kernel_rfl) rfl (by unfold FnOK; kernel_rfl) fun hok => ?_
  refine SpecP.mono (f79_spec n1 l fc (k + 1) s p _ hc) ?_
  rintro _ _ ⟨j, rfl, hj, rfl⟩
  refine And.intro trivial (And.intro trivial ?_)
  refine And.intro (fun h => ?_) fun h => ?_
  · exact Exists.intro [] (ret_bool (by rw [← hj]; simpa using h) rfl)
  · exact Exists.intro [] (ret_bool (by rw [← hj]; simpa using h) rfl)

def od69 : Od := [(1, [(0, .pure), (1, .pure), (2, .pure), (4, .pure), (5, .pure), (3, .eff), (6, .pure), (7, .pure)])]
theorem f69_spec (n1 : Bool) (s : List Int) (n : Int) (hs : risingB s n = true) (hn : n ≤ 1000000000) (x : Lit) (fr0 fr1 fr2 : Fr) (out : List Fr) :
    SpecP Tryz.prog 69 [.lit x, .ptr (.fr 2 16) 0] (fr0 :: fr1 :: ((16, .box [.ints n1 s]) :: fr2) :: out) fun r ro => r = .bool (hasB s x.fact == x.neg) ∧ ro = [] := by
  refine spec_body cx_ok [] od69 (fn := Tryz.f69) (by kernel_rfl) rfl (by kernel_rfl) rfl (by unfold FnOK; kernel_rfl) fun hok => ?_
  refine Exists.intro _ (And.intro rfl ?_)
  refine And.intro (fun h1 => ?_) fun h1 => ?_
  · refine SpecP.mono (f70_spec n1 s n x.fact hs hn []) ?_
    rintro _ _ ⟨rfl, rfl⟩
    refine And.intro ⟨rfl, rfl, rfl⟩ ?_
    refine And.intro (fun h2 => ?_) fun h2 => ?_
    · refine And.intro (fun h3 => ?_) fun h3 => ?_
      · exact Exists.intro [] (ret_bool (by rw [h1, h2]; exact h3) rfl)
      · exact Exists.intro [] (ret_bool (by rw [h1, h2]; exact h3) rfl)
    · refine And.intro (fun h3 => ?_) fun h3 => ?_
      · exact Exists.intro [] (ret_bool (by rw [h1, h2]; exact h3) rfl)
      · exact Exists.intro [] (ret_bool (by rw [h1, h2]; exact h3) rfl)
  · refine SpecP.mono (f70_spec n1 s n x.fact hs hn []) ?_
    rintro _ _ ⟨rfl, rfl⟩
    refine And.intro ⟨rfl, rfl, rfl⟩ ?_
    refine And.intro (fun h2 => ?_) fun h2 => ?_
    · refine And.intro (fun h3 => ?_) fun h3 => ?_
      · exact Exists.intro [] (ret_bool (by rw [h1, h2]; exact h3) rfl)
      · exact Exists.intro [] (ret_bool (by rw [h1, h2]; exact h3) rfl)
    · refine And.intro (fun h3 => ?_) fun h3 => ?_
      · exact Exists.intro [] (ret_bool (by rw [h1, h2]; exact h3) rfl)
      · exact Exists.intro [] (ret_bool (by rw [h1, h2]; exact h3) rfl)

theorem not_any {l : List Lit} {p q : Lit → Bool} (h : ∀ x, q x = !p x) : l.all q = !l.any p := by
  induction l with
  | nil => rfl
  | cons x r ih => simp only [List.all_cons, List.any_cons, ih, h, Bool.not_or]

theorem f50_spec (n1 n2 : Bool) (s : List Int) (l : List Lit) (n : Int) (hs : risingB s n = true) (hn : n ≤ 1000000000) (out : List Fr) :
    SpecP Tryz.prog 50 [.ints n1 s, .lits n2 l] out fun r ro => r = .bool (holdsB s l) ∧ ro = [] := by
  refine spec_body cx_ok [] [] (fn := Tryz.f50) (by kernel_rfl) rfl (by kernel_rfl) rfl (by unfold FnOK; kernel_rfl) fun hok => ?_
  refine SpecP.mono (f68_spec n2 l 69 0 16 (fun x => hasB s x.fact == x.neg) _ (fun x _ => f69_spec n1 s n hs hn x [] [] [] out)) ?_
  rintro _ _ ⟨rfl, rfl⟩
  refine And.intro trivial (And.intro trivial ?_)
  have e : holdsB s l = !l.any (fun x => hasB s x.fact == x.neg) := not_any fun x => by cases hasB s x.fact <;> cases x.neg <;> rfl
  refine And.intro (fun h => ?_) fun h => ?_
  · exact Exists.intro [] (ret_bool (e.trans (congrArg not h)) rfl)
  · exact Exists.intro [] (ret_bool (e.trans (congrArg not h)) rfl)

def fineI (t : Task) (s : List Int) : Int := if isB t then (if risingB s t.facts.length then 0 else 20) else 10
theorem f46_spec (t : Task) (n1 : Bool) (s : List Int) (out : List Fr) : SpecP Tryz.prog 46 [.task t, .ints n1 s] out fun r ro => r = .int (fineI t s) ∧ ro = [] := by
  refine spec_body cx_ok [] [] (fn := Tryz.f46) (by kernel_rfl) rfl (by kernel_rfl) rfl (by unfold FnOK; kernel_rfl) fun hok => ?_
  refine SpecP.mono (f59_spec t []) ?_
  rintro _ _ ⟨rfl, rfl⟩
  refine And.intro (fun h1 => ?_) fun h1 => ?_
  · refine SpecP.mono (f66_spec n1 s (t.facts.map tS).length []) ?_
    rintro _ _ ⟨rfl, rfl⟩
    rw [List.length_map]
    refine And.intro (fun h2 => ?_) fun h2 => ?_
    · exact Exists.intro [] ⟨by simp only [fineI, h1, h2]; rfl, rfl⟩
    · exact Exists.intro [] ⟨by simp only [fineI, h1, h2]; rfl, rfl⟩
  · exact Exists.intro [] ⟨by simp only [fineI, h1]; rfl, rfl⟩

/-! ### all -/
def bitAt (b : List Bool) (l : Lit) : Bool := b.getD (codeI l).toNat false
def inB (b : List Bool) (l : Lit) : Prop := big l.fact ∧ 0 ≤ codeI l ∧ codeI l < b.length
theorem bit_get {b : List Bool} {l : Lit} (h : inB b l) : (b.map tB)[(codeI l).toNat]? = some (tB (bitAt b l)) := by
  obtain ⟨_, h0, h1⟩ := h
  have : (codeI l).toNat < b.length := by omega
  simp [bitAt, this]

def od89 : Od := [(1, [(0, .pure), (1, .pure), (2, .eff), (3, .pure), (4, .pure), (5, .pure), (6, .pure)])]
end Go.Fw

/- What is reached: the plain law (no program in sight but for the data). -/
namespace Go.Fw
open Go Go.Proofs

inductive Rch (t : Task) (s : List Int) (cnt : Nat → Lit → Bool) : Nat → Prop
  | ini (k : Nat) (hk : k < 2 * t.facts.length) (h : (hasB s ((k / 2 : Nat) : Int) != decide (k % 2 = 1)) = true) : Rch t s cnt k
  | eff (a : Nat) (x : Actn) (e : Eff) (hx : t.acts[a]? = some x) (he : e ∈ x.effs) (hc : cnt a e.lit = true) (hp : ∀ l ∈ x.pre, Rch t s cnt (codeI l).toNat) (hw : ∀ l ∈ e.when_, Rch t s cnt (codeI l).toNat) : Rch t s cnt (codeI e.lit).toNat

structure IsR (t : Task) (s : List Int) (cnt : Nat → Lit → Bool) (b : List Bool) : Prop where
  len : b.length = 2 * t.facts.length
  iff : ∀ k, b.getD k false = true ↔ Rch t s cnt k

theorem IsR.unique {t s cnt b b'} (h : IsR t s cnt b) (h' : IsR t s cnt b') : b = b' := by
  refine List.ext_getElem (by rw [h.len, h'.len]) fun k hk hk' => ?_
  have h1 := h.iff k
  have h2 := h'.iff k
  simp only [List.getD_eq_getElem?_getD, List.getElem?_eq_getElem hk, List.getElem?_eq_getElem hk', Option.getD_some] at h1 h2
  have := h1.trans h2.symm
  cases hb : b[k] <;> cases hb' : b'[k] <;> simp [hb, hb'] at this ⊢

theorem Rch.congr {t s} {cnt cnt' : Nat → Lit → Bool} (hc : ∀ a x e, t.acts[a]? = some x → e ∈ x.effs → cnt a e.lit = cnt' a e.lit) {k : Nat} (h : Rch t s cnt k) : Rch t s cnt' k := by
  induction h with
  | ini k hk h => exact .ini k hk h
  | eff a x e hx he hcc hp hw ihp ihw => exact .eff a x e hx he (by rw [← hc a x e hx he]; exact hcc) ihp ihw
theorem IsR.congr {t s b} {cnt cnt' : Nat → Lit → Bool} (hc : ∀ a x e, t.acts[a]? = some x → e ∈ x.effs → cnt a e.lit = cnt' a e.lit) (h : IsR t s cnt b) : IsR t s cnt' b :=
  ⟨h.len, fun k => (h.iff k).trans ⟨Rch.congr hc, Rch.congr fun a x e hx he => (hc a x e hx he).symm⟩⟩

/-! ### Tasks that are valid -/
def litIn (n : Nat) (l : Lit) : Prop := 0 ≤ l.fact ∧ l.fact < n
structure TaskOK (t : Task) : Prop where
  facts : t.facts.length ≤ 200
  acts : t.acts.length ≤ 1000
  goal : ∀ l ∈ t.goal, litIn t.facts.length l
  effs : ∀ x ∈ t.acts, x.effs.length ≤ 100
  cost : ∀ x ∈ t.acts, 0 ≤ x.cost ∧ x.cost ≤ 100000
  pre : ∀ x ∈ t.acts, ∀ l ∈ x.pre, litIn t.facts.length l
  lit : ∀ x ∈ t.acts, ∀ e ∈ x.effs, litIn t.facts.length e.lit
  whn : ∀ x ∈ t.acts, ∀ e ∈ x.effs, ∀ l ∈ e.when_, litIn t.facts.length l

theorem cond_in {l : List Lit} {n : Nat} (h : condB l n = true) : ∀ x ∈ l, litIn n x := fun _ hx => rising_in h _ (List.mem_map_of_mem hx)
theorem task_ok {t : Task} (h : isB t = true) : TaskOK t := by
  simp only [isB, Bool.and_eq_true, decide_eq_true_eq] at h
  obtain ⟨⟨⟨⟨⟨⟨h1, _⟩, _⟩, h4⟩, h5⟩, h6⟩, _⟩ := h
  have ha : ∀ x ∈ t.acts, actB t.facts.length x = true := List.all_eq_true.1 h6
  have hp : ∀ x ∈ t.acts, ((0 ≤ x.cost ∧ x.cost ≤ 100000) ∧ condB x.pre t.facts.length = true) ∧ x.effs.length ≤ 100 ∧ ∀ e ∈ x.effs, effB t.facts.length e = true := fun x hx => by
    have := ha x hx
    simp only [actB, Bool.and_eq_true, decide_eq_true_eq] at this
    exact ⟨⟨⟨this.1.1.1.1, this.1.1.1.2⟩, this.1.1.2⟩, this.1.2, List.all_eq_true.1 this.2⟩
  have hq : ∀ x ∈ t.acts, ∀ e ∈ x.effs, condB e.when_ t.facts.length = true ∧ litIn t.facts.length e.lit := fun x hx e he => by
    have := (hp x hx).2.2 e he
    simp only [effB, Bool.and_eq_true, decide_eq_true_eq] at this
    exact ⟨this.1.1, this.1.2, this.2⟩
  exact ⟨h1, h5, cond_in h4, fun x hx => (hp x hx).2.1, fun x hx => (hp x hx).1.1, fun x hx => cond_in (hp x hx).1.2, fun x hx e he => (hq x hx e he).2, fun x hx e he => cond_in (hq x hx e he).1⟩

theorem litIn.inB {n : Nat} {l : Lit} {b : List Bool} (h : litIn n l) (hn : n ≤ 200) (hb : b.length = 2 * n) : inB b l := by
  obtain ⟨h0, h1⟩ := h
  refine ⟨⟨by omega, by omega⟩, ?_, ?_⟩ <;> (unfold codeI; split <;> omega)

/-! ### Bits -/
theorem getD_set {b : List Bool} {i j : Nat} {v : Bool} (hi : i < b.length) : (b.set i v).getD j false = if i = j then v else b.getD j false := by
  simp only [List.getD_eq_getElem?_getD, List.getElem?_set]
  by_cases h : i = j
  · subst h; simp [hi]
  · simp [h]
theorem getD_set_true {b : List Bool} {i j : Nat} (h : b.getD j false = true) : (b.set i true).getD j false = true := by
  by_cases hi : i < b.length
  · rw [getD_set hi]
    split
    · rfl
    · exact h
  · rw [List.set_eq_of_length_le (by omega)]; exact h
theorem falses_set {b : List Bool} {i : Nat} (hi : i < b.length) (h : b.getD i false = false) : (b.set i true).count false < b.count false := by
  have h' : b[i] = false := by simpa [hi] using h
  have hpos : 0 < b.count false := List.count_pos_iff.2 (by rw [← h']; exact List.getElem_mem hi)
  rw [List.count_set hi, h']
  simp
  omega
theorem setHas_mono {b : List Bool} {i : Nat} {l : List Lit} (h : setHas b l = true) : setHas (b.set i true) l = true := by
  rw [setHas, List.all_eq_true] at *
  exact fun x hx => getD_set_true (h x hx)

def Sound (t : Task) (s : List Int) (cnt : Nat → Lit → Bool) (b : List Bool) : Prop := ∀ k, b.getD k false = true → Rch t s cnt k
theorem Sound.has {t s cnt b} (h : Sound t s cnt b) {l : List Lit} (hl : setHas b l = true) : ∀ x ∈ l, Rch t s cnt (codeI x).toNat := fun x hx => h _ (List.all_eq_true.1 hl x hx)
theorem Sound.set {t s cnt b} (h : Sound t s cnt b) {k : Nat} (hk : Rch t s cnt k) : Sound t s cnt (b.set k true) := fun j hj => by
  by_cases hi : k < b.length
  · rw [getD_set hi] at hj
    split at hj
    · rename_i he; rw [← he]; exact hk
    · exact h j hj
  · rw [List.set_eq_of_length_le (by omega)] at hj; exact h j hj
def CloE (cnt : Nat → Lit → Bool) (b : List Bool) (a : Nat) (e : Eff) : Prop := cnt a e.lit = true → setHas b e.when_ = true → bitAt b e.lit = true
def Clo (t : Task) (cnt : Nat → Lit → Bool) (b : List Bool) (a : Nat) : Prop := ∀ x, t.acts[a]? = some x → setHas b x.pre = true → ∀ e ∈ x.effs, CloE cnt b a e
def Ini (n : Nat) (l : List Int) (b : List Bool) : Prop := b.length = 2 * n ∧ ∀ k, k < 2 * n → b.getD k false = (hasB l ((k / 2 : Nat) : Int) != decide (k % 2 = 1))

theorem isR_of {t s cnt b} (hl : b.length = 2 * t.facts.length) (hs : Sound t s cnt b) (hi : ∀ k, k < 2 * t.facts.length → (hasB s ((k / 2 : Nat) : Int) != decide (k % 2 = 1)) = true → b.getD k false = true) (hc : ∀ a, a < t.acts.length → Clo t cnt b a) : IsR t s cnt b := by
  refine ⟨hl, fun k => ⟨hs k, fun h => ?_⟩⟩
  induction h with
  | ini k hk h => exact hi k hk h
  | eff a x e hx he hcc hp hw ihp ihw =>
    exact hc a (List.getElem?_eq_some_iff.1 hx).1 x hx (List.all_eq_true.2 ihp) e he hcc (List.all_eq_true.2 ihw)

theorem Ini.sound {t s cnt b} (h : Ini t.facts.length s b) : Sound t s cnt b := fun k hk => by
  by_cases hl : k < 2 * t.facts.length
  · exact .ini k hl (by rw [← h.2 k hl]; exact hk)
  · have : b.getD k false = false := by simp only [List.getD_eq_getElem?_getD]; rw [List.getElem?_eq_none (by rw [h.1]; omega)]; rfl
    rw [this] at hk; cases hk

def Odds (n i : Nat) (b : List Bool) : Prop := b.length = 2 * n ∧ ∀ k, k < 2 * n → b.getD k false = (decide (k / 2 < i) && decide (k % 2 = 1))
theorem Odds.zero (n : Nat) : Odds n 0 (List.replicate (2 * n) false) := ⟨by simp, fun k hk => by simp [List.getD_eq_getElem?_getD, hk]⟩
theorem Odds.step {n i : Nat} {b : List Bool} (h : Odds n i b) (hi : i < n) : Odds n (i + 1) (b.set (2 * i + 1) true) := by
  refine ⟨by simp [h.1], fun k hk => ?_⟩
  rw [getD_set (by rw [h.1]; omega)]
  split
  · rename_i he; subst he
    have h1 : (2 * i + 1) / 2 < i + 1 := by omega
    have h2 : (2 * i + 1) % 2 = 1 := by omega
    simp only [h1, h2, decide_true, Bool.and_self]
  · rename_i he
    rw [h.2 k hk]
    by_cases h2 : k % 2 = 1
    · have : k / 2 < i ↔ k / 2 < i + 1 := by omega
      simp only [this]
    · simp only [h2, decide_false, Bool.and_false]
theorem Odds.ini {n : Nat} {b : List Bool} (h : Odds n n b) : Ini n [] b := ⟨h.1, fun k hk => by
  rw [h.2 k hk]
  have : k / 2 < n := by omega
  simp [this, hasB]⟩
theorem hasB_snoc (l : List Int) (f x : Int) : hasB (l ++ [f]) x = (hasB l x || f == x) := by simp [hasB, List.any_append]
theorem Ini.step {n f : Nat} {l : List Int} {b : List Bool} (h : Ini n l b) (hf : f < n) : Ini n (l ++ [(f : Int)]) ((b.set (2 * f) true).set (2 * f + 1) false) := by
  refine ⟨by simp [h.1], fun k hk => ?_⟩
  rw [getD_set (by simp [h.1]; omega), getD_set (by rw [h.1]; omega), hasB_snoc]
  by_cases h1 : 2 * f + 1 = k
  · subst h1
    have e1 : (2 * f + 1) / 2 = f := by omega
    have e2 : (2 * f + 1) % 2 = 1 := by omega
    simp [e1, e2]
  · by_cases h2 : 2 * f = k
    · subst h2
      have e1 : 2 * f / 2 = f := by omega
      have e2 : 2 * f % 2 = 0 := by omega
      simp [e1, e2]
    · rw [if_neg h1, if_neg h2, h.2 k hk]
      have : ((f : Int) == ((k / 2 : Nat) : Int)) = false := by simp; omega
      rw [this, Bool.or_false]

theorem bits_get {n : Nat} {l : List Int} (hl : ∀ x ∈ l, 0 ≤ x ∧ x < n) {f : Nat} (hf : f < n) : (bitsL n l).getD f false = hasB l f := by
  have : ∀ (l : List Int) (b : List Bool), (∀ x ∈ l, 0 ≤ x ∧ x < n) → b.length = n → (l.foldl (fun b x => b.set x.toNat true) b).getD f false = (b.getD f false || hasB l f) := by
    intro l
    induction l with
    | nil => intro b _ _; simp [hasB]
    | cons x r ih =>
      intro b hx hb
      rw [List.foldl_cons, ih _ (fun y hy => hx y (List.mem_cons_of_mem _ hy)) (by simp [hb])]
      have hx0 := hx x (List.mem_cons_self ..)
      rw [getD_set (by omega)]
      simp only [hasB, List.any_cons]
      by_cases he : x.toNat = f
      · have : (x == (f : Int)) = true := by simp; omega
        simp [he, this]
      · have : (x == (f : Int)) = false := by simp; omega
        simp [he, this]
  rw [bitsL, this l _ hl (by simp)]
  simp [List.getD_eq_getElem?_getD, hf]

def Half (n : Nat) (l : List Int) (i : Nat) (b : List Bool) : Prop := b.length = 2 * n ∧ ∀ k, k < 2 * n → b.getD k false = (decide (k / 2 < i) && (hasB l ((k / 2 : Nat) : Int) != decide (k % 2 = 1)))
theorem Half.zero (n : Nat) (l : List Int) : Half n l 0 (List.replicate (2 * n) false) := ⟨by simp, fun k hk => by simp [List.getD_eq_getElem?_getD, hk]⟩
theorem Half.step {n i : Nat} {l : List Int} {b : List Bool} (h : Half n l i b) (hi : i < n) : Half n l (i + 1) (b.set (codeI ⟨(i : Int), !hasB l i⟩).toNat true) := by
  refine ⟨by simp [h.1], fun k hk => ?_⟩
  have hc : (codeI ⟨(i : Int), !hasB l i⟩).toNat = if hasB l i = true then 2 * i else 2 * i + 1 := by
    unfold codeI
    cases hasB l i <;> simp <;> omega
  rw [hc, getD_set (by rw [h.1]; split <;> omega), h.2 k hk]
  by_cases hki : k / 2 = i
  · have h1 : k / 2 < i + 1 := by omega
    have h2 : ¬ k / 2 < i := by omega
    simp only [h1, h2, decide_true, decide_false, Bool.true_and, Bool.false_and]
    rw [hki]
    cases hb : hasB l i
    · by_cases hk1 : k % 2 = 1
      · have : 2 * i + 1 = k := by omega
        simp [this, hk1]
      · have : ¬ 2 * i + 1 = k := by omega
        simp [this, hk1]
    · by_cases hk1 : k % 2 = 1
      · have : ¬ 2 * i = k := by omega
        simp [this, hk1]
      · have : 2 * i = k := by omega
        simp [this, hk1]
  · have h1 : k / 2 < i + 1 ↔ k / 2 < i := by omega
    have h2 : ¬ (if hasB l i = true then 2 * i else 2 * i + 1) = k := by split <;> omega
    simp only [h1, h2, if_false]
theorem Half.ini {n : Nat} {l : List Int} {b : List Bool} (h : Half n l n b) : Ini n l b := ⟨h.1, fun k hk => by
  rw [h.2 k hk]
  have : k / 2 < n := by omega
  simp [this]⟩

end Go.Fw

/- A result's own rows, given away for ever; nil slices deep in closed data. -/
namespace Go.Fw
open Go Go.Proofs
set_option maxRecDepth 10000

/-! ### Nil slices deep in closed data -/
def T.un : T → T
  | .v x => .v x
  | .sl true _ [] => .sl true 0 []
  | .sl n sz es => .sl n sz (unEs es)
where
  unEs : List (List T) → List (List T)
    | [] => []
    | el :: r => unEl el :: unEs r
  unEl : List T → List T
    | [] => []
    | x :: r => T.un x :: unEl r
theorem unEl_get : ∀ {el el' : List T}, T.un.unEl el' = T.un.unEl el → el'.length = el.length ∧ ∀ (j : Nat) (x' : T), el'[j]? = some x' → ∃ x, el[j]? = some x ∧ x'.un = x.un
  | [], [], _ => ⟨rfl, fun j x h => by simp at h⟩
  | [], _ :: _, h => by simp [T.un.unEl] at h
  | _ :: _, [], h => by simp [T.un.unEl] at h
  | x :: r, x' :: r', h => by
    simp only [T.un.unEl, List.cons.injEq] at h
    obtain ⟨h1, h2⟩ := unEl_get h.2
    refine ⟨by simp [h1], fun j y hy => ?_⟩
    cases j with
    | zero => simp at hy; subst hy; exact ⟨x, rfl, h.1⟩
    | succ j => simpa using h2 j y (by simpa using hy)
theorem unEs_get : ∀ {es es' : List (List T)}, T.un.unEs es' = T.un.unEs es → es'.length = es.length ∧ ∀ (i : Nat) (e' : List T), es'[i]? = some e' → ∃ e, es[i]? = some e ∧ T.un.unEl e' = T.un.unEl e
  | [], [], _ => ⟨rfl, fun j x h => by simp at h⟩
  | [], _ :: _, h => by simp [T.un.unEs] at h
  | _ :: _, [], h => by simp [T.un.unEs] at h
  | x :: r, x' :: r', h => by
    simp only [T.un.unEs, List.cons.injEq] at h
    obtain ⟨h1, h2⟩ := unEs_get h.2
    refine ⟨by simp [h1], fun j y hy => ?_⟩
    cases j with
    | zero => simp at hy; subst hy; exact ⟨x, rfl, h.1⟩
    | succ j => simpa using h2 j y (by simpa using hy)
theorem un_sl {sz : Nat} {es : List (List T)} : (T.sl false sz es).un = .sl false sz (T.un.unEs es) := by cases es <;> rfl
theorem un_inv {y : T} : ∀ {sz : Nat} {es : List (List T)}, y.un = .sl false sz (T.un.unEs es) → ∃ es', y = .sl false sz es' ∧ T.un.unEs es' = T.un.unEs es := by
  intro sz es h
  match y, h with
  | .v x, h => simp [T.un] at h
  | .sl true a [], h => simp [T.un] at h
  | .sl true a (b :: r), h => simp [T.un] at h
  | .sl false a es', h => rw [un_sl] at h; simp only [T.sl.injEq, true_and] at h; exact ⟨es', by rw [h.1], h.2⟩
theorem VT.un {RO : Nat → Prop} {w : World} {x : T} {v : Value} (h : VT RO w x v) : ∀ y : T, y.un = x.un → VT RO w y v := by
  induction h with
  | v x h =>
    intro y hy
    match y, hy with
    | .v z, hy => simp only [T.un, T.v.injEq] at hy; subst hy; exact .v _ h
    | .sl true a [], hy => simp [T.un] at hy
    | .sl true a (b :: r), hy => simp [T.un] at hy
    | .sl false a es, hy => rw [un_sl] at hy; simp [T.un] at hy
  | nil sz =>
    intro y hy
    match y, hy with
    | .v z, hy => simp [T.un] at hy
    | .sl true a [], hy => exact .nil a
    | .sl true a (b :: r), hy => simp [T.un, T.un.unEs] at hy
    | .sl false a es, hy => rw [un_sl] at hy; simp [T.un] at hy
  | emp sz a c hc =>
    intro y hy
    obtain ⟨es', rfl, h2⟩ := un_inv (y := y) (sz := sz) (es := []) (by rw [hy]; rfl)
    have := (unEs_get h2).1
    have : es' = [] := List.eq_nil_of_length_eq_zero (by simpa using this)
    subst this; exact .emp sz a c hc
  | sl sz es b off c u hb hc hm hsz hcell hv ih =>
    intro y hy
    rw [un_sl] at hy
    obtain ⟨es', rfl, h2⟩ := un_inv hy
    obtain ⟨hl, hg⟩ := unEs_get h2
    rw [← hl] at hc ⊢
    refine .sl sz es' b off c u (fun ⟨i, e, j, x, hi, hj⟩ => by
      obtain ⟨e0, h3, h4⟩ := hg i e hi
      obtain ⟨x0, h5, _⟩ := (unEl_get h4).2 j x hj
      exact hb ⟨i, e0, j, x0, h3, h5⟩) hc hm (fun i e hi => ?_) (fun i e j x hi hj => ?_) fun i e j x hi hj => ?_
    · obtain ⟨e0, h3, h4⟩ := hg i e hi
      rw [(unEl_get h4).1]; exact hsz i e0 h3
    · obtain ⟨e0, h3, h4⟩ := hg i e hi
      obtain ⟨x0, h5, _⟩ := (unEl_get h4).2 j x hj
      exact hcell i e0 j x0 h3 h5
    · obtain ⟨e0, h3, h4⟩ := hg i e hi
      obtain ⟨x0, h5, h6⟩ := (unEl_get h4).2 j x hj
      exact ih i e0 j x0 h3 h5 x h6

/-! ### Closing -/
def allRO (RO : Nat → Prop) (β : K → Nat) (ro : Fr) (b : Nat) : Prop := RO b ∨ ∃ s o, look ro s = some o ∧ b = β (.cur s)

theorem get_out {out : List Fr} {ro : Fr} : ∀ {k : K} {o : Ob}, St.get ⟨out, []⟩ k = some o → St.get ⟨out, ro⟩ k = some o ∧ k.isFr = true
  | .cur s, o, h => by simp [St.get, look] at h
  | .fr i s, o, h => ⟨h, rfl⟩
  | .sub k i, o, h => by
    obtain ⟨eo, e, sz, rs, es, hg, hi, rfl⟩ := St.get_sub h
    obtain ⟨h1, h2⟩ := get_out (ro := ro) hg
    exact ⟨by simp only [St.get, h1, hi], h2⟩

theorem WR.close {w0 w : World} {β0 β : K → Nat} {RO0 RO : Nat → Prop} {out : List Fr} {ro : Fr} (h : WR (entP β0 RO0 w0) β RO ⟨out, ro⟩ w) : WR (entP β0 RO0 w0) β (allRO RO β ro) ⟨out, []⟩ w := by
  have hro : ∀ b, RO b → allRO RO β ro b := fun b hb => .inl hb
  have hcan : ∀ k o, St.get ⟨out, []⟩ k = some o → ¬ (entP β0 RO0 w0).can k := fun k o hk hc => by
    have := hc (get_out (ro := ro) hk).2
    cases this
  refine ⟨h.os, h.tape, h.output, h.size, h.keep, fun b hb => ?_, fun b hb => hro b (h.ro0 b hb), fun b hb => ?_, fun k o hk => (h.obj k o (get_out hk).1).ro hro, fun k o hk hc => (hcan k o hk hc).elim, fun k k' o o' hk hk' hc _ _ => (hcan k o hk hc).elim, fun k o hk hc => (hcan k o hk hc).elim, fun k o hk hc => hro _ (h.fzRO k o (get_out hk).1 hc), h.stay⟩
  · rcases hb with hb | ⟨s, o, hs, rfl⟩
    · exact h.roLt b hb
    · exact (h.obj (.cur s) o hs).lt
  · rcases hb with hb | ⟨s, o, hs, rfl⟩
    · exact h.roNew b hb
    · exact .inr ((h.objNew (.cur s) o hs (fun hc => by cases hc)).symm.imp id id)

/-- A value, its own row told as closed data. -/
inductive ClsV (ro : Fr) : LV → LV → Prop
  | same (x : T) : ClsV ro (.t x) (.t x)
  | row (s e sz off len : Nat) (es : List (List T)) (h : look ro s = some (.row e sz es)) (hl : off + len ≤ es.length) : ClsV ro (.osl (.cur s) sz off len) (.t (.sl false sz ((es.drop off).take len)))
  | nil (a b : Nat) : ClsV ro (.t (.sl true a [])) (.t (.sl true b []))
  | triple (a a' b b' c c' : LV) (h1 : ClsV ro a a') (h2 : ClsV ro b b') (h3 : ClsV ro c c') : ClsV ro (.tup [a, b, c]) (.tup [a', b', c'])
  | pair (a a' b b' : LV) (h1 : ClsV ro a a') (h2 : ClsV ro b b') : ClsV ro (.tup [a, b]) (.tup [a', b'])
  | agg (xs ys : List LV) (hl : xs.length = ys.length) (h : ∀ (i : Nat) (x y : LV), xs[i]? = some x → ys[i]? = some y → ClsV ro x y) : ClsV ro (.agg xs) (.agg ys)
  | un (x y : T) (h : y.un = x.un) : ClsV ro (.t x) (.t y)
  | trans (a b c : LV) (h1 : ClsV ro a b) (h2 : ClsV ro b c) : ClsV ro a c

theorem ClsV.vl' {w0 w : World} {β0 β : K → Nat} {RO0 RO : Nat → Prop} {out : List Fr} {ro : Fr} (h : WR (entP β0 RO0 w0) β RO ⟨out, ro⟩ w) {x y : LV} (hc : ClsV ro x y) : ∀ {v : Value}, VL β (allRO RO β ro) w x v → VL β (allRO RO β ro) w y v := by
  induction hc with
  | same x => intro v hv; exact hv
  | row s e sz off len es hs hl =>
    intro v hv
    have hk : St.get ⟨out, ro⟩ (.cur s) = some (.row e sz es) := hs
    exact .t _ _ (snap (fun _ h => h) (.inr ⟨s, _, hs, rfl⟩) ((h.obj (.cur s) _ hk).ro fun b hb => .inl hb) hv hl)
  | nil a b => intro v hv; exact nil_sz _ _ _ _ hv
  | triple a a' b b' c c' _ _ _ ih1 ih2 ih3 =>
    intro v hv
    cases hv with
    | tup _ vs hl hvs =>
    refine .tup _ vs (by simpa using hl) fun i x u hx hu => ?_
    match i with
    | 0 => simp at hx; subst hx; exact ih1 (hvs 0 a u rfl hu)
    | 1 => simp at hx; subst hx; exact ih2 (hvs 1 b u rfl hu)
    | 2 => simp at hx; subst hx; exact ih3 (hvs 2 c u rfl hu)
    | i + 3 => simp at hx
  | pair a a' b b' _ _ ih1 ih2 =>
    intro v hv
    cases hv with
    | tup _ vs hl hvs =>
    refine .tup _ vs (by simpa using hl) fun i x u hx hu => ?_
    match i with
    | 0 => simp at hx; subst hx; exact ih1 (hvs 0 a u rfl hu)
    | 1 => simp at hx; subst hx; exact ih2 (hvs 1 b u rfl hu)
    | i + 2 => simp at hx
  | agg xs ys hl h ih =>
    intro v hv
    cases hv with
    | agg _ vs hl' hvs h1 =>
    refine .agg _ vs (by omega) (fun i y u hy hu => ?_) h1
    have hi : i < xs.length := by rw [hl]; exact (List.getElem?_eq_some_iff.1 hy).1
    exact ih i _ y (List.getElem?_eq_getElem hi) hy (hvs i _ u (List.getElem?_eq_getElem hi) hu)
  | un x y h =>
    intro v hv
    cases hv with
    | t _ _ hv => exact .t _ _ (hv.un _ h)
  | trans _ _ _ _ _ ih1 ih2 => intro v hv; exact ih2 (ih1 hv)
theorem ClsV.vl {w0 w : World} {β0 β : K → Nat} {RO0 RO : Nat → Prop} {out : List Fr} {ro : Fr} (h : WR (entP β0 RO0 w0) β RO ⟨out, ro⟩ w) {x y : LV} (hc : ClsV ro x y) {v : Value} (hv : VL β RO w x v) : VL β (allRO RO β ro) w y v :=
  hc.vl' h (hv.ro fun _ hb => .inl hb)

theorem SpecP.close {P : Program} {f : Nat} {args : List LV} {out : List Fr} {Post Post' : LV → Fr → Prop} (h : SpecP P f args out Post) (hp : ∀ r ro, Post r ro → ∃ r', ClsV ro r r' ∧ Post' r' []) : SpecP P f args out Post' :=
  ⟨h.fn, fun β RO w vals hw hv => (h.calls β RO w vals hw hv).mono fun e w' ⟨v, r, ro, out', β', RO', he, h1, h2, h3⟩ => by
    obtain ⟨r', hc, hp'⟩ := hp r ro h1
    exact ⟨v, r', [], out', β', _, he, hp', h2.close, hc.vl h2 h3⟩⟩

/-- What was gathered, told as closed data. -/
theorem acc_cls {s e sz : Nat} {es : List (List T)} {ro : Fr} (h : ∀ x r, es = x :: r → look ro s = some (.row e sz es)) : ClsV ro (accV s sz es) (.t (.sl es.isEmpty sz es)) := by
  cases es with
  | nil => exact .nil 0 sz
  | cons x r =>
    have := ClsV.row (ro := ro) s e sz 0 (x :: r).length (x :: r) (h x r rfl) (by simp)
    rw [List.drop_zero, List.take_of_length_le (Nat.le_refl _)] at this
    exact this

end Go.Fw

/- Sets and numberings as maps. -/
namespace Go.Fw
open Go Go.Proofs

theorem St.get_fr {out : List Fr} {cur fr : Fr} {i s : Nat} {o : Ob} (h1 : out[i]? = some fr) (h2 : look fr s = some o) : St.get ⟨out, cur⟩ (.fr i s) = some (liftO (i + 1) o) := by
  simp only [St.get, h1, h2]

abbrev cellsTask (t : Task) : List LV := [.t (.sl t.fn 1 (t.facts.map tS)), .t (.sl t.ni 1 (t.init.map tI)), .t (.sl t.gn 2 (t.goal.map tLit)), .t (.sl t.an 4 (t.acts.map tAct))]
theorem take_all {α : Type} {l : List α} : l = (l.drop 0).take l.length := by rw [List.drop_zero, List.take_of_length_le (Nat.le_refl _)]

theorem lend {b : List Bool} {n : Nat} (h : b.length = n) : b.map tB = ((b.map tB).drop 0).take n := by
  rw [List.drop_zero, List.take_of_length_le (by simp [h])]
theorem lend2 {b : List Bool} {n : Nat} (h : b.length = n) : 0 + n ≤ (b.map tB).length := by simp [h]

theorem lend3 (l : List Int) : 0 + (l.map tI).length ≤ (l.map tI).length := by simp

theorem flat_bools {e sz : Nat} {b : List Bool} : (Ob.row e sz (b.map tB)).flat := by
  intro el hel x hx
  obtain ⟨y, _, rfl⟩ := List.mem_map.1 hel
  simp [tB] at hx; subst hx; trivial
theorem flat_ints {e sz : Nat} {b : List Int} : (Ob.row e sz (b.map tI)).flat := by
  intro el hel x hx
  obtain ⟨y, _, rfl⟩ := List.mem_map.1 hel
  simp [tI] at hx; subst hx; trivial
theorem flat_lits {e sz : Nat} {b : List Lit} : (Ob.row e sz (b.map tLit)).flat := by
  intro el hel x hx
  obtain ⟨y, _, rfl⟩ := List.mem_map.1 hel
  simp [tLit] at hx; rcases hx with rfl | rfl <;> trivial

theorem SpecP.conv {P : Program} {f : Nat} {args args' : List LV} {out : List Fr} {Post : LV → Fr → Prop} (hxy : ∀ (β : K → Nat) (RO : Nat → Prop) (w : World) (vals : List Value), Vals β RO w args vals → Vals β RO w args' vals) (h : SpecP P f args' out Post) : SpecP P f args out Post :=
  ⟨h.fn, fun β RO w vals hw hv => h.calls β RO w vals hw (hxy β RO w vals hv)⟩

/-! ### Sets of numbers -/
theorem hasB_mm {l : List Int} {x : Int} : hasB l x = true ↔ x ∈ l := by simp [hasB, List.any_eq_true]
def kvI (l : List Int) : List (Value × T) := l.map fun x => (.int .i64 x, .v (.bool true))
theorem look_kvI (x : Int) : ∀ l : List Int, lookKV (.int .i64 x) (.v (.bool false)) (kvI l) = .v (.bool (hasB l x))
  | [] => rfl
  | y :: r => by
    have ih := look_kvI x r
    simp only [kvI, List.map_cons, lookKV, hasB, List.any_cons] at ih ⊢
    by_cases h : x = y
    · rw [if_pos (show sameK (.int .i64 x) (.int .i64 y) = true by simp [sameK, h])]
      simp [h]
    · have h2 : (y == x) = false := by simpa using fun hh => h hh.symm
      rw [if_neg (show ¬ sameK (.int .i64 x) (.int .i64 y) = true by simpa [sameK] using h), ih, h2, Bool.false_or]
theorem kvI_len (l : List Int) : (kvI l).length = l.length := List.length_map ..

/-! ### Numberings -/
section
variable {α : Type} [DecidableEq α]
def posG : List α → α → Nat
  | [], _ => 0
  | y :: r, x => if y = x then 0 else posG r x + 1
theorem posG_lt {x : α} : ∀ {l : List α}, x ∈ l → posG l x < l.length
  | [], h => by cases h
  | y :: r, h => by
    simp only [posG]
    split
    · simp
    · rename_i hne
      have h : x ∈ r := (List.mem_cons.1 h).resolve_left (fun h => hne h.symm)
      have := posG_lt h; simp; omega
theorem posG_get {x : α} : ∀ {l : List α}, x ∈ l → l[posG l x]? = some x
  | [], h => by cases h
  | y :: r, h => by
    simp only [posG]
    split
    · rename_i he; simp [he]
    · rename_i hne
      have h : x ∈ r := (List.mem_cons.1 h).resolve_left (fun h => hne h.symm)
      simpa using posG_get h
theorem posG_of {x : α} : ∀ {l : List α} {i : Nat}, l.Nodup → l[i]? = some x → posG l x = i
  | [], i, _, h => by simp at h
  | y :: r, i, hn, h => by
    obtain ⟨h1, h2⟩ := List.nodup_cons.1 hn
    simp only [posG]
    cases i with
    | zero => simp at h; simp [h]
    | succ i =>
      simp at h
      have hx := List.mem_of_getElem? h
      rw [if_neg (by rintro rfl; exact h1 hx), posG_of h2 h]

/-- Each key with its place. -/
def kvG (f : α → Value) : Nat → List α → List (Value × T)
  | _, [] => []
  | k, x :: r => (f x, .v (.int .i64 (k : Nat))) :: kvG f (k + 1) r
theorem look_kvG {f : α → Value} {x : α} {z : Int} : ∀ {l : List α} {k : Nat}, (∀ y ∈ l, sameK (f x) (f y) = decide (x = y)) → lookKV (f x) (.v (.int .i64 z)) (kvG f k l) = .v (.int .i64 (if x ∈ l then ((k + posG l x : Nat) : Int) else z))
  | [], k, h => by simp [kvG, lookKV]
  | y :: r, k, h => by
    have ih := look_kvG (f := f) (x := x) (z := z) (l := r) (k := k + 1) fun y hy => h y (List.mem_cons_of_mem _ hy)
    simp only [kvG, lookKV, h y (List.mem_cons_self ..), posG]
    by_cases hxy : x = y
    · subst hxy; simp
    · rw [if_neg (by simpa using hxy), ih]
      have hyx : ¬ y = x := fun h => hxy h.symm
      simp only [List.mem_cons, hxy, false_or, hyx, if_false]
      congr 2
      split
      · congr 1; omega
      · rfl
theorem has_kvG {f : α → Value} {x : α} : ∀ {l : List α} {k : Nat}, (∀ y ∈ l, sameK (f x) (f y) = decide (x = y)) → hasKV (f x) (kvG f k l) = decide (x ∈ l)
  | [], k, h => by simp [kvG, hasKV]
  | y :: r, k, h => by
    have ih := has_kvG (f := f) (x := x) (l := r) (k := k + 1) fun y hy => h y (List.mem_cons_of_mem _ hy)
    simp only [kvG, hasKV, h y (List.mem_cons_self ..)]
    by_cases hxy : x = y
    · subst hxy; simp
    · rw [if_neg (by simpa using hxy), ih]
      simp [hxy]
theorem upd_kvG {f : α → Value} {x : α} : ∀ {l : List α} {k : Nat}, (∀ y ∈ l, sameK (f x) (f y) = decide (x = y)) → x ∉ l → updKV (f x) (.v (.int .i64 ((k + l.length : Nat) : Int))) (kvG f k l) = kvG f k (l ++ [x])
  | [], k, h, hx => by simp [kvG, updKV]
  | y :: r, k, h, hx => by
    have ih := upd_kvG (f := f) (x := x) (l := r) (k := k + 1) (fun y hy => h y (List.mem_cons_of_mem _ hy)) (fun hh => hx (List.mem_cons_of_mem _ hh))
    have hne : ¬ x = y := by rintro rfl; exact hx (List.mem_cons_self ..)
    simp only [List.cons_append, kvG, updKV, h y (List.mem_cons_self ..)]
    rw [if_neg (by simpa using hne), List.length_cons, show k + (r.length + 1) = k + 1 + r.length by omega, ih]
end

/-- The places of numbers. -/
abbrev kvP (p : List Int) : List (Value × T) := kvG (.int .i64) 0 p
def posI (p : List Int) (x : Int) : Int := if hasB p x = true then (posG p x : Int) else 0
theorem same_int (x y : Int) : sameK (.int .i64 x) (.int .i64 y) = decide (x = y) := by
  rw [Bool.eq_iff_iff]; simp [sameK]
theorem hasB_iff {l : List Int} {x : Int} : hasB l x = decide (x ∈ l) := by
  rw [Bool.eq_iff_iff, hasB_mm]; simp
theorem look_kvP (p : List Int) (x : Int) : lookKV (.int .i64 x) (.v (.int .i64 0)) (kvP p) = .v (.int .i64 (posI p x)) := by
  rw [look_kvG fun y _ => same_int x y, posI]
  simp only [hasB_mm, Nat.zero_add]
theorem has_kvP (p : List Int) (x : Int) : hasKV (.int .i64 x) (kvP p) = hasB p x := by rw [has_kvG fun y _ => same_int x y, hasB_iff]
theorem upd_kvP {p : List Int} {x : Int} (h : x ∉ p) : updKV (.int .i64 x) (.v (.int .i64 (p.length : Int))) (kvP p) = kvP (p ++ [x]) := by
  have := upd_kvG (f := .int .i64) (k := 0) (fun y _ => same_int x y) h
  rwa [Nat.zero_add] at this
theorem kvG_len {α : Type} (f : α → Value) : ∀ (k : Nat) (l : List α), (kvG f k l).length = l.length
  | _, [] => rfl
  | k, _ :: r => by simp [kvG, kvG_len f (k + 1) r]

end Go.Fw

/- What the program's functions do, part 35: lists of actions; the state after an action. -/
namespace Go.Fw
open Go Go.Proofs
set_option maxRecDepth 10000

def planB (t : Task) (p : List Int) : Bool := decide (p.length ≤ 10000) && p.all fun x => decide (0 ≤ x) && decide (x < t.acts.length)
def kp45 : Kp := [(4, ([2, 10, 11, 12], [16]))]
def negStep (s : List Int) (b : List Bool) (e : Eff) : List Bool := if (e.lit.neg && holdsB s e.when_) = true then b.set e.lit.fact.toNat false else b
def posStep (s : List Int) (b : List Bool) (e : Eff) : List Bool := if (!e.lit.neg && holdsB s e.when_) = true then b.set e.lit.fact.toNat true else b
def negAll (n : Nat) (s : List Int) (l : List Eff) : List Bool := l.foldl (negStep s) (bitsL n s)
def afterBits (n : Nat) (s : List Int) (l : List Eff) : List Bool := l.foldl (posStep s) (negAll n s l)
def afterL (n : Nat) (s : List Int) (l : List Eff) : List Int := listL (afterBits n s l)

theorem foldl_len {f : List Bool → Eff → List Bool} (h : ∀ b e, (f b e).length = b.length) : ∀ (l : List Eff) (b : List Bool), (l.foldl f b).length = b.length
  | [], _ => rfl
  | e :: r, b => by rw [List.foldl_cons, foldl_len h r, h]
theorem neg_len (s : List Int) (b : List Bool) (e : Eff) : (negStep s b e).length = b.length := by unfold negStep; split <;> simp
theorem pos_len (s : List Int) (b : List Bool) (e : Eff) : (posStep s b e).length = b.length := by unfold posStep; split <;> simp
theorem foldl_take {f : List Bool → Eff → List Bool} {l : List Eff} {b : List Bool} {i : Nat} (hi : i < l.length) : (l.take (i + 1)).foldl f b = f ((l.take i).foldl f b) l[i] := by
  rw [List.take_add_one, List.getElem?_eq_getElem hi, Option.toList_some, List.foldl_append]; rfl

def sSz : List Int → Nat
  | [] => 0
  | _ :: _ => 1
def sT (s : List Int) : T := .sl s.isEmpty (sSz s) (s.map tI)
theorem sT_vl {s : List Int} {β : K → Nat} {RO : Nat → Prop} {w : World} {v : Value} (h : VL β RO w (.t (sT s)) v) : VL β RO w (.ints s.isEmpty s) v := by
  cases s with
  | nil => exact nil_sz β RO w v h
  | cons x r => exact h

theorem el_at {b : List Bool} {n : Nat} (h : n < b.length) : ∃ y, (b.map tB)[0 + n]? = some (tB y) :=
  ⟨b[n], by rw [Nat.zero_add, List.getElem?_map, List.getElem?_eq_getElem h]; rfl⟩
def kp42 : Kp := [(3, ([1, 2, 3, 7, 22, 23, 24], [24, 129000459])), (9, ([1, 7, 48, 49, 50], [129000459]))]
theorem f42_spec (t : Task) (n1 : Bool) (s : List Int) (k : Nat) (TK : TaskOK t) (hs : ∀ x ∈ s, 0 ≤ x ∧ x < (t.facts.length : Int)) (hk : k < t.acts.length) (out : List Fr) :
    SpecP Tryz.prog 42 [.task t, .ints n1 s, .int k] out fun r ro => r = .t (sT (afterL t.facts.length s t.acts[k].effs)) ∧ ro = [] := by
  refine SpecP.close (Post := fun r ro => r = accV 569001843 1 ((afterL t.facts.length s t.acts[k].effs).map tI) ∧ ro = accO 569001843 3 1 ((afterL t.facts.length s t.acts[k].effs).map tI)) ?_ ?_
  rotate_left
  · rintro r ro ⟨rfl, rfl⟩
    generalize afterL t.facts.length s t.acts[k].effs = L
    cases L with
    | nil => exact ⟨_, .same _, rfl, rfl⟩
    | cons x r =>
      refine ⟨_, .row 569001843 3 1 0 _ ((x :: r).map tI) rfl (by simp), ?_, rfl⟩
      show LV.t (.sl false 1 ((((x :: r).map tI).drop 0).take ((x :: r).map tI).length)) = _
      rw [← take_all]; rfl
  refine spec_body cx_ok kp42 [] (fn := Tryz.f42) (by kernel_rfl) rfl (by kernel_rfl) rfl (by unfold FnOK; kernel_rfl) fun hok => ?_
  have hfl : (t.facts.map tS).length = t.facts.length := List.length_map ..
  have hN := TK.facts
  have hmem : t.acts[k] ∈ t.acts := List.getElem_mem hk
  have hE := TK.effs _ hmem
  refine SpecP.mono (f15_spec (t.facts.map tS).length n1 s (by omega) (by rw [hfl]; exact hs) []) ?_
  rintro _ _ ⟨rfl, rfl⟩
  refine And.intro (by omega) (Exists.intro _ (And.intro (get_map hk) ?_))
  have nl : ∀ i, ((t.acts[k].effs.take i).foldl (negStep s) (bitsL (t.facts.map tS).length s)).length = t.facts.length := fun i => by rw [foldl_len (neg_len s), bitsL_length, hfl]
  refine LoopW.mk Nat (fun i => i ≤ t.acts[k].effs.length) (fun i => [(1, .ints n1 s), (2, .int k), (3, .ptr (.cur 24) 0), (7, .osl (.cur 129000459) 1 0 (t.facts.map tS).length), (22, .t (.sl t.acts[k].en 3 (t.acts[k].effs.map tEff))), (23, .int (t.acts[k].effs.map tEff).length), (24, .int i)])
    (fun i => ⟨out, [(24, .box (cellsTask t)), (129000459, .row 4 1 (((t.acts[k].effs.take i).foldl (negStep s) (bitsL (t.facts.map tS).length s)).map tB))]⟩) (fun i => t.acts[k].effs.length - i) 0 (Nat.zero_le _) ⟨rfl, rfl⟩ fun i hI => ?_
  refine And.intro (fun h1 => ?_) fun h1 => ?_
  · have hi := lt_of_dec h1
    have hin := TK.lit _ hmem _ (List.getElem_mem hi)
    have hnl := nl i
    have hft : t.acts[k].effs[i].lit.fact.toNat < ((t.acts[k].effs.take i).foldl (negStep s) (bitsL (t.facts.map tS).length s)).length := by rw [hnl]; have := hin.1; have := hin.2; omega
    have stay : (t.acts[k].effs[i].lit.neg && holdsB s t.acts[k].effs[i].when_) = false → (t.acts[k].effs.take (i + 1)).foldl (negStep s) (bitsL (t.facts.map tS).length s) = (t.acts[k].effs.take i).foldl (negStep s) (bitsL (t.facts.map tS).length s) := fun h => by rw [foldl_take hi, negStep, h]; rfl
    refine And.intro (by omega) (Exists.intro _ (And.intro (get_map hi) ?_))
    refine And.intro (fun h2 => ?_) fun h2 => ?_
    · refine SpecP.mono (f64_spec n1 t.acts[k].effs[i].nil s t.acts[k].effs[i].when_ []) ?_
      rintro _ _ ⟨rfl, rfl⟩
      refine And.intro (fun h3 => ?_) fun h3 => ?_
      · obtain ⟨y, hy⟩ := el_at hft
        refine And.intro hin.1 (And.intro (by rw [hfl]; exact hin.2) (Exists.intro (tB y) (And.intro hy (And.intro (Nat.le_refl 1) ?_))))
        refine And.intro (by omega) (And.intro (by omega) ?_)
        refine Exists.intro (i + 1) (And.intro (by show t.acts[k].effs.length - (i + 1) < t.acts[k].effs.length - i; omega) (And.intro hi (And.intro rfl ?_)))
        show (⟨out, [(24, .box (cellsTask t)), (129000459, .row 4 1 ((((t.acts[k].effs.take i).foldl (negStep s) (bitsL (t.facts.map tS).length s)).map tB).set (0 + t.acts[k].effs[i].lit.fact.toNat) (tB false)))]⟩ : St) = _
        rw [Nat.zero_add, map_set', foldl_take hi, negStep, h2, h3]; rfl
      · refine And.intro (by omega) (And.intro (by omega) ?_)
        refine Exists.intro (i + 1) (And.intro (by show t.acts[k].effs.length - (i + 1) < t.acts[k].effs.length - i; omega) (And.intro hi (And.intro rfl ?_)))
        simp only [stay (by rw [h3, Bool.and_false])]
    · refine And.intro (by omega) (And.intro (by omega) ?_)
      refine Exists.intro (i + 1) (And.intro (by show t.acts[k].effs.length - (i + 1) < t.acts[k].effs.length - i; omega) (And.intro hi (And.intro rfl ?_)))
      simp only [stay (by rw [h2, Bool.false_and])]
  have hi : t.acts[k].effs.length ≤ i := ge_of_dec h1
  rw [List.take_of_length_le hi]
  refine And.intro (by omega) (Exists.intro _ (And.intro (get_map hk) ?_))
  have hneg : t.acts[k].effs.foldl (negStep s) (bitsL (t.facts.map tS).length s) = negAll t.facts.length s t.acts[k].effs := by rw [hfl]; rfl
  rw [hneg]
  have pl : ∀ i, ((t.acts[k].effs.take i).foldl (posStep s) (negAll t.facts.length s t.acts[k].effs)).length = t.facts.length := fun i => by rw [foldl_len (pos_len s), negAll, foldl_len (neg_len s), bitsL_length]
  clear h1 hi
  refine LoopW.mk Nat (fun i => i ≤ t.acts[k].effs.length) (fun i => [(1, .ints n1 s), (7, .osl (.cur 129000459) 1 0 (t.facts.map tS).length), (48, .t (.sl t.acts[k].en 3 (t.acts[k].effs.map tEff))), (49, .int (t.acts[k].effs.map tEff).length), (50, .int i)])
    (fun i => ⟨out, [(129000459, .row 4 1 (((t.acts[k].effs.take i).foldl (posStep s) (negAll t.facts.length s t.acts[k].effs)).map tB))]⟩) (fun i => t.acts[k].effs.length - i) 0 (Nat.zero_le _) ⟨rfl, rfl⟩ fun i hI => ?_
  refine And.intro (fun h1 => ?_) fun h1 => ?_
  · have hi := lt_of_dec h1
    have hin := TK.lit _ hmem _ (List.getElem_mem hi)
    have hnl := pl i
    have hft : t.acts[k].effs[i].lit.fact.toNat < ((t.acts[k].effs.take i).foldl (posStep s) (negAll t.facts.length s t.acts[k].effs)).length := by rw [hnl]; have := hin.1; have := hin.2; omega
    have stay : (!t.acts[k].effs[i].lit.neg && holdsB s t.acts[k].effs[i].when_) = false → (t.acts[k].effs.take (i + 1)).foldl (posStep s) (negAll t.facts.length s t.acts[k].effs) = (t.acts[k].effs.take i).foldl (posStep s) (negAll t.facts.length s t.acts[k].effs) := fun h => by rw [foldl_take hi, posStep, h]; rfl
    refine And.intro (by omega) (Exists.intro _ (And.intro (get_map hi) ?_))
    refine And.intro (fun h2 => ?_) fun h2 => ?_
    · refine And.intro (by omega) (And.intro (by omega) ?_)
      refine Exists.intro (i + 1) (And.intro (by show t.acts[k].effs.length - (i + 1) < t.acts[k].effs.length - i; omega) (And.intro hi (And.intro rfl ?_)))
      simp only [stay (by rw [h2]; rfl)]
    · refine SpecP.mono (f64_spec n1 t.acts[k].effs[i].nil s t.acts[k].effs[i].when_ []) ?_
      rintro _ _ ⟨rfl, rfl⟩
      refine And.intro (fun h3 => ?_) fun h3 => ?_
      · obtain ⟨y, hy⟩ := el_at hft
        refine And.intro hin.1 (And.intro (by rw [hfl]; exact hin.2) (Exists.intro (tB y) (And.intro hy (And.intro (Nat.le_refl 1) ?_))))
        refine And.intro (by omega) (And.intro (by omega) ?_)
        refine Exists.intro (i + 1) (And.intro (by show t.acts[k].effs.length - (i + 1) < t.acts[k].effs.length - i; omega) (And.intro hi (And.intro rfl ?_)))
        show (⟨out, [(129000459, .row 4 1 ((((t.acts[k].effs.take i).foldl (posStep s) (negAll t.facts.length s t.acts[k].effs)).map tB).set (0 + t.acts[k].effs[i].lit.fact.toNat) (tB true)))]⟩ : St) = _
        rw [Nat.zero_add, map_set', foldl_take hi, posStep, h2, h3]; rfl
      · refine And.intro (by omega) (And.intro (by omega) ?_)
        refine Exists.intro (i + 1) (And.intro (by show t.acts[k].effs.length - (i + 1) < t.acts[k].effs.length - i; omega) (And.intro hi (And.intro rfl ?_)))
        simp only [stay (by rw [h3, Bool.and_false])]
  have hi : t.acts[k].effs.length ≤ i := ge_of_dec h1
  have hpl := pl i
  rw [List.take_of_length_le hi] at hpl ⊢
  have hab : t.acts[k].effs.foldl (posStep s) (negAll t.facts.length s t.acts[k].effs) = afterBits t.facts.length s t.acts[k].effs := rfl
  rw [hab] at hpl ⊢
  refine Exists.intro ((afterBits t.facts.length s t.acts[k].effs).map tB) (And.intro (lend (by rw [hpl, hfl])) (And.intro (lend2 (by rw [hpl, hfl])) ?_))
  have m77 := f17_spec false (afterBits t.facts.length s t.acts[k].effs) (by omega)
  have haf : afterL t.facts.length s t.acts[k].effs = listL (afterBits t.facts.length s t.acts[k].effs) := rfl
  rw [haf]
  generalize listL (afterBits t.facts.length s t.acts[k].effs) = L at m77
  refine SpecP.mono (m77 _) ?_
  rintro _ _ ⟨rfl, rfl⟩
  cases L with
  | nil =>
    refine And.intro trivial (And.intro trivial ?_)
    exact Exists.intro [569001843] ⟨rfl, rfl⟩
  | cons x r =>
    refine And.intro trivial (And.intro ⟨flat_ints (b := x :: r), trivial⟩ ?_)
    exact Exists.intro [569001843] ⟨rfl, rfl⟩

end Go.Fw

/- Plans: the plain law. -/
namespace Go.Fw
open Go Go.Proofs

theorem listFrom_mem {x : Int} : ∀ {l : List Bool} {k : Nat}, x ∈ listFrom k l ↔ ∃ i, i < l.length ∧ l.getD i false = true ∧ x = ((k + i : Nat) : Int)
  | [], k => by simp [listFrom]
  | b :: r, k => by
    rw [listFrom, List.mem_append, listFrom_mem]
    constructor
    · rintro (h | ⟨i, hi, hb, hx⟩)
      · cases b with
        | false => simp at h
        | true => simp at h; exact ⟨0, by simp, rfl, by simpa using h⟩
      · exact ⟨i + 1, by simpa using hi, by simpa using hb, by rw [hx]; congr 1; omega⟩
    · rintro ⟨i, hi, hb, hx⟩
      cases i with
      | zero => simp at hb; subst hb; exact .inl (by simpa using hx)
      | succ i => exact .inr ⟨i, by simpa using hi, by simpa using hb, by rw [hx]; congr 1; omega⟩
theorem hasB_listL (b : List Bool) (f : Nat) : hasB (listL b) (f : Int) = b.getD f false := by
  rw [Bool.eq_iff_iff, hasB, List.any_eq_true]
  constructor
  · rintro ⟨x, hx, hf⟩
    obtain ⟨i, _, hb, rfl⟩ := listFrom_mem.1 hx
    have : i = f := by simp at hf; omega
    subst this; exact hb
  · intro hb
    refine ⟨(f : Int), listFrom_mem.2 ⟨f, ?_, hb, by simp⟩, by simp⟩
    rcases Nat.lt_or_ge f b.length with h | h
    · exact h
    · rw [List.getD_eq_getElem?_getD, List.getElem?_eq_none h] at hb; cases hb
theorem listL_in (b : List Bool) : ∀ x ∈ listL b, 0 ≤ x ∧ x < (b.length : Int) := fun x hx => by
  obtain ⟨i, hi, _, rfl⟩ := listFrom_mem.1 hx
  omega

def factsIn (n : Nat) (l : List Eff) : Prop := ∀ e ∈ l, litIn n e.lit
theorem lit_eq {l : Lit} {f : Nat} {v : Bool} (h0 : 0 ≤ l.fact) (h : l.fact.toNat = f) (hv : l.neg = v) : l = ⟨(f : Int), v⟩ := by
  cases l; simp at h0 h hv; simp [hv]; omega
theorem neg_true {s : List Int} {n f : Nat} : ∀ {l : List Eff} {b : List Bool}, factsIn n l → b.length = n → (l.foldl (negStep s) b).getD f false = true → b.getD f false = true
  | [], _, _, _, h => h
  | e :: r, b, hl, hb, h => by
    rw [List.foldl_cons] at h
    have := neg_true (fun x hx => hl x (List.mem_cons_of_mem _ hx)) (by rw [neg_len, hb]) h
    have hin := hl e (List.mem_cons_self ..)
    unfold negStep at this
    split at this
    · rw [getD_set (by have := hin.1; have := hin.2; omega)] at this
      split at this
      · cases this
      · exact this
    · exact this
theorem neg_false {s : List Int} {n f : Nat} : ∀ {l : List Eff} {b : List Bool}, factsIn n l → b.length = n → (l.foldl (negStep s) b).getD f false = false → b.getD f false = false ∨ ∃ e ∈ l, e.lit = ⟨(f : Int), true⟩ ∧ holdsB s e.when_ = true
  | [], _, _, _, h => .inl h
  | e :: r, b, hl, hb, h => by
    rw [List.foldl_cons] at h
    have hin := hl e (List.mem_cons_self ..)
    rcases neg_false (fun x hx => hl x (List.mem_cons_of_mem _ hx)) (by rw [neg_len, hb]) h with this | ⟨x, hx, h1⟩
    · unfold negStep at this
      split at this
      · rename_i hc
        rw [Bool.and_eq_true] at hc
        rw [getD_set (by have := hin.1; have := hin.2; omega)] at this
        split at this
        · rename_i hf; exact .inr ⟨e, List.mem_cons_self .., lit_eq hin.1 hf hc.1, hc.2⟩
        · exact .inl this
      · exact .inl this
    · exact .inr ⟨x, List.mem_cons_of_mem _ hx, h1⟩
theorem pos_false {s : List Int} {n f : Nat} : ∀ {l : List Eff} {b : List Bool}, factsIn n l → b.length = n → (l.foldl (posStep s) b).getD f false = false → b.getD f false = false
  | [], _, _, _, h => h
  | e :: r, b, hl, hb, h => by
    rw [List.foldl_cons] at h
    have := pos_false (fun x hx => hl x (List.mem_cons_of_mem _ hx)) (by rw [pos_len, hb]) h
    have hin := hl e (List.mem_cons_self ..)
    unfold posStep at this
    split at this
    · rw [getD_set (by have := hin.1; have := hin.2; omega)] at this
      split at this
      · cases this
      · exact this
    · exact this
theorem pos_true {s : List Int} {n f : Nat} : ∀ {l : List Eff} {b : List Bool}, factsIn n l → b.length = n → (l.foldl (posStep s) b).getD f false = true → b.getD f false = true ∨ ∃ e ∈ l, e.lit = ⟨(f : Int), false⟩ ∧ holdsB s e.when_ = true
  | [], _, _, _, h => .inl h
  | e :: r, b, hl, hb, h => by
    rw [List.foldl_cons] at h
    have hin := hl e (List.mem_cons_self ..)
    rcases pos_true (fun x hx => hl x (List.mem_cons_of_mem _ hx)) (by rw [pos_len, hb]) h with this | ⟨x, hx, h1⟩
    · unfold posStep at this
      split at this
      · rename_i hc
        rw [Bool.and_eq_true, Bool.not_eq_true'] at hc
        rw [getD_set (by have := hin.1; have := hin.2; omega)] at this
        split at this
        · rename_i hf; exact .inr ⟨e, List.mem_cons_self .., lit_eq hin.1 hf hc.1, hc.2⟩
        · exact .inl this
      · exact .inl this
    · exact .inr ⟨x, List.mem_cons_of_mem _ hx, h1⟩

theorem afterBits_len (n : Nat) (s : List Int) (l : List Eff) : (afterBits n s l).length = n := by
  rw [afterBits, foldl_len (pos_len s), negAll, foldl_len (neg_len s), bitsL_length]
theorem after_true {n : Nat} {s : List Int} {l : List Eff} {f : Nat} (hl : factsIn n l) (hs : ∀ x ∈ s, 0 ≤ x ∧ x < (n : Int)) (hf : f < n) (h : hasB (afterL n s l) (f : Int) = true) : hasB s (f : Int) = true ∨ ∃ e ∈ l, e.lit = ⟨(f : Int), false⟩ ∧ holdsB s e.when_ = true := by
  rw [afterL, hasB_listL] at h
  rcases pos_true hl (by rw [negAll, foldl_len (neg_len s), bitsL_length]) h with h | h
  · have := neg_true hl (bitsL_length _ _) h
    rw [bits_get hs hf] at this; exact .inl this
  · exact .inr h
theorem after_false {n : Nat} {s : List Int} {l : List Eff} {f : Nat} (hl : factsIn n l) (hs : ∀ x ∈ s, 0 ≤ x ∧ x < (n : Int)) (hf : f < n) (h : hasB (afterL n s l) (f : Int) = false) : hasB s (f : Int) = false ∨ ∃ e ∈ l, e.lit = ⟨(f : Int), true⟩ ∧ holdsB s e.when_ = true := by
  rw [afterL, hasB_listL] at h
  have h := pos_false hl (by rw [negAll, foldl_len (neg_len s), bitsL_length]) h
  rcases neg_false hl (bitsL_length _ _) h with h | h
  · rw [bits_get hs hf] at h; exact .inl h
  · exact .inr h
theorem after_in (n : Nat) (s : List Int) (l : List Eff) : ∀ x ∈ afterL n s l, 0 ≤ x ∧ x < (n : Int) := fun x hx => by
  have := listL_in _ x hx
  rwa [afterBits_len] at this

/-! ### Executing a list -/
def pAct (t : Task) (p : List Int) (i : Nat) : Actn := match t.acts[(p.getD i 0).toNat]? with
  | some x => x
  | none => ⟨⟨#[]⟩, 0, true, [], true, []⟩
def stAt (t : Task) (s p : List Int) : Nat → List Int
  | 0 => s
  | i + 1 => afterL t.facts.length (stAt t s p i) (pAct t p i).effs
def costAt (t : Task) (p : List Int) : Nat → Int
  | 0 => 0
  | i + 1 => costAt t p i + (pAct t p i).cost
def okAt (t : Task) (s p : List Int) (i : Nat) : Bool := holdsB (stAt t s p i) (pAct t p i).pre

theorem plan_get {t : Task} {p : List Int} (hp : planB t p = true) {i : Nat} (hi : i < p.length) : ∃ k : Nat, p[i] = (k : Int) ∧ ∃ hk : k < t.acts.length, pAct t p i = t.acts[k] ∧ t.acts[(p.getD i 0).toNat]? = some (pAct t p i) ∧ (p.getD i 0).toNat = k := by
  simp only [planB, Bool.and_eq_true, List.all_eq_true, decide_eq_true_eq] at hp
  have h := hp.2 _ (List.getElem_mem hi)
  have hg : p.getD i 0 = p[i] := by rw [List.getD_eq_getElem?_getD, List.getElem?_eq_getElem hi]; rfl
  have hk : p[i].toNat < t.acts.length := by omega
  refine ⟨p[i].toNat, by omega, hk, ?_, ?_, by rw [hg]⟩
  · rw [pAct, hg, List.getElem?_eq_getElem hk]
  · rw [pAct, hg, List.getElem?_eq_getElem hk]
theorem stAt_in {t : Task} {s p : List Int} (hs : ∀ x ∈ s, 0 ≤ x ∧ x < (t.facts.length : Int)) : ∀ i, ∀ x ∈ stAt t s p i, 0 ≤ x ∧ x < (t.facts.length : Int)
  | 0 => hs
  | _ + 1 => after_in _ _ _
theorem holds_one (s : List Int) (l : Lit) : holdsB s [l] = (hasB s l.fact != l.neg) := by simp [holdsB]
theorem holds_mem {s : List Int} {l : List Lit} (h : holdsB s l = true) : ∀ x ∈ l, holdsB s [x] = true := fun x hx => by
  rw [holds_one]; exact List.all_eq_true.1 h x hx

structure Valid (t : Task) (s p : List Int) : Prop where
  plan : planB t p = true
  ok : ∀ i, i < p.length → okAt t s p i = true
  goal : holdsB (stAt t s p p.length) t.goal = true

/-! ### Sums -/
end Go.Fw

/- What the program's functions do, part 36: plans are executed. -/
namespace Go.Fw
open Go Go.Proofs
set_option maxRecDepth 10000

theorem conv_first {x y : LV} {r : List LV} (hxy : ∀ (β : K → Nat) (RO : Nat → Prop) (w : World) (v : Value), VL β RO w x v → VL β RO w y v) : ∀ (β : K → Nat) (RO : Nat → Prop) (w : World) (vals : List Value), Vals β RO w (x :: r) vals → Vals β RO w (y :: r) vals := fun β RO w vals hv =>
  ⟨hv.1, fun i z v hz hvz => by
    cases i with
    | zero => simp at hz; subst hz; exact hxy β RO w v (hv.2 0 x v rfl hvz)
    | succ i => exact hv.2 (i + 1) z v hz hvz⟩
theorem conv_second {a x y : LV} {r : List LV} (hxy : ∀ (β : K → Nat) (RO : Nat → Prop) (w : World) (v : Value), VL β RO w x v → VL β RO w y v) : ∀ (β : K → Nat) (RO : Nat → Prop) (w : World) (vals : List Value), Vals β RO w (a :: x :: r) vals → Vals β RO w (a :: y :: r) vals := fun β RO w vals hv =>
  ⟨hv.1, fun i z v hz hvz => by
    match i with
    | 0 => exact hv.2 0 z v hz hvz
    | 1 => simp at hz; subst hz; exact hxy β RO w v (hv.2 1 x v rfl hvz)
    | i + 2 => exact hv.2 (i + 2) z v hz hvz⟩

def stRows (t : Task) (s p : List Int) (k : Nat) : List (List T) := (List.range (k + 1)).map fun j => [sT (stAt t s p j)]
theorem stRows_len (t : Task) (s p : List Int) (k : Nat) : (stRows t s p k).length = k + 1 := by simp [stRows]
theorem stRows_step (t : Task) (s p : List Int) (k : Nat) : stRows t s p (k + 1) = stRows t s p k ++ [[sT (stAt t s p (k + 1))]] := by
  rw [stRows, List.range_succ, List.map_append]; rfl
theorem stRows_get {t : Task} {s p : List Int} {k j : Nat} (h : j ≤ k) : (stRows t s p k)[j]? = some [sT (stAt t s p j)] := by
  rw [stRows, List.getElem?_map, List.getElem?_range (by omega)]; rfl
theorem costAt_in {t : Task} {p : List Int} (TK : TaskOK t) (hp : planB t p = true) : ∀ i, i ≤ p.length → 0 ≤ costAt t p i ∧ costAt t p i ≤ 100000 * (i : Int)
  | 0, _ => by simp [costAt]
  | i + 1, hi => by
    have := costAt_in TK hp i (by omega)
    obtain ⟨k, _, hk2, hk3, _⟩ := plan_get hp (show i < p.length by omega)
    have hc := TK.cost _ (List.getElem_mem hk2)
    rw [costAt, hk3]; omega

def kp46 : Kp := [(3, ([3, 6, 7, 15, 16, 17], [24, 112]))]
def od21 : Od := [(4, [(0, .pure), (1, .pure), (2, .pure), (3, .pure), (4, .pure), (5, .pure), (6, .pure), (7, .pure), (8, .pure), (9, .pure), (10, .pure), (11, .eff), (12, .pure), (13, .pure)])]
end Go.Fw

/- The state after an action: the plain law. -/
namespace Go.Fw
open Go Go.Proofs

theorem perm_eraseIdx {α : Type} {a : α} : ∀ {l : List α} {i : Nat}, l[i]? = some a → l.Perm (a :: l.eraseIdx i)
  | [], i, h => by simp at h
  | x :: r, 0, h => by simp at h; subst h; exact List.Perm.refl _
  | x :: r, i + 1, h => by
    have ih := perm_eraseIdx (l := r) (i := i) (by simpa using h)
    rw [List.eraseIdx_cons_succ]
    exact (ih.cons x).trans (List.Perm.swap _ _ _)

theorem inc_ext : ∀ {l m : List Int}, l.Pairwise (· < ·) → m.Pairwise (· < ·) → (∀ x, x ∈ l ↔ x ∈ m) → l = m
  | [], [], _, _, _ => rfl
  | [], b :: m, _, _, h => by have := (h b).2 (List.mem_cons_self ..); cases this
  | a :: l, [], _, _, h => by have := (h a).1 (List.mem_cons_self ..); cases this
  | a :: l, b :: m, hl, hm, h => by
    obtain ⟨hl1, hl2⟩ := List.pairwise_cons.1 hl
    obtain ⟨hm1, hm2⟩ := List.pairwise_cons.1 hm
    have hab : a = b := by
      rcases List.mem_cons.1 ((h a).1 (List.mem_cons_self ..)) with h1 | h1
      · exact h1
      · rcases List.mem_cons.1 ((h b).2 (List.mem_cons_self ..)) with h2 | h2
        · exact h2.symm
        · have := hm1 a h1; have := hl1 b h2; omega
    subst hab
    rw [inc_ext hl2 hm2 fun x => ?_]
    constructor
    · intro hx
      rcases List.mem_cons.1 ((h x).1 (List.mem_cons_of_mem _ hx)) with h1 | h1
      · have := hl1 x hx; omega
      · exact h1
    · intro hx
      rcases List.mem_cons.1 ((h x).2 (List.mem_cons_of_mem _ hx)) with h1 | h1
      · have := hm1 x hx; omega
      · exact h1

theorem listFrom_inc : ∀ (b : List Bool) (k : Nat), (listFrom k b).Pairwise (· < ·) ∧ ∀ x ∈ listFrom k b, (k : Int) ≤ x
  | [], k => ⟨.nil, by simp [listFrom]⟩
  | b :: r, k => by
    obtain ⟨h1, h2⟩ := listFrom_inc r (k + 1)
    cases b with
    | false => exact ⟨by simpa [listFrom] using h1, fun x hx => by have := h2 x (by simpa [listFrom] using hx); omega⟩
    | true =>
      have e : listFrom k (true :: r) = (k : Int) :: listFrom (k + 1) r := rfl
      rw [e]
      refine ⟨List.pairwise_cons.2 ⟨fun x hx => by have := h2 x hx; omega, h1⟩, fun x hx => ?_⟩
      rcases List.mem_cons.1 hx with rfl | hx
      · omega
      · have := h2 x hx; omega
theorem listL_inc (b : List Bool) : (listL b).Pairwise (· < ·) := (listFrom_inc b 0).1

theorem rising_inc {l : List Int} {n : Int} (h : risingB l n = true) : l.Pairwise (· < ·) := List.pairwise_iff_getElem.2 fun i j _ hj hij => rising_lt h j i hj hij
theorem inc_nodup {l : List Int} (h : l.Pairwise (· < ·)) : l.Nodup := h.imp fun hab => by omega
theorem hasB_mem {l : List Int} {x : Int} : hasB l x = true ↔ x ∈ l := by simp [hasB, List.any_eq_true]

theorem sort_inc {L M : List Int} (hn : L.Nodup) (hM : M.Pairwise (· < ·)) (h : ∀ x, x ∈ L ↔ x ∈ M) : (L.mergeSort fun x y => decide (x ≤ y)) = M := by
  have hp := List.mergeSort_perm L fun x y => decide (x ≤ y)
  have hs := List.pairwise_mergeSort (le := fun x y : Int => decide (x ≤ y)) (fun a b c h1 h2 => by simp at *; omega) (fun a b => by simp; omega) L
  have hn' := hp.nodup_iff.2 hn
  refine inc_ext ((hs.and hn').imp fun ⟨h1, h2⟩ => by simp at h1; omega) hM fun x => ?_
  rw [hp.mem_iff]; exact h x

def posB (s : List Int) (l : List Eff) (x : Int) : Bool := l.any fun e => (!e.lit.neg && holdsB s e.when_) && e.lit.fact == x
def negB (s : List Int) (l : List Eff) (x : Int) : Bool := l.any fun e => (e.lit.neg && holdsB s e.when_) && e.lit.fact == x

theorem neg_get {s : List Int} {n f : Nat} : ∀ {l : List Eff} {b : List Bool}, factsIn n l → b.length = n → (l.foldl (negStep s) b).getD f false = (b.getD f false && !negB s l (f : Int))
  | [], b, _, _ => by simp [negB]
  | e :: r, b, hl, hb => by
    have hin := hl e (List.mem_cons_self ..)
    rw [List.foldl_cons, neg_get (fun x hx => hl x (List.mem_cons_of_mem _ hx)) (by rw [neg_len, hb])]
    have e1 : negB s (e :: r) (f : Int) = (((e.lit.neg && holdsB s e.when_) && e.lit.fact == (f : Int)) || negB s r (f : Int)) := rfl
    rw [e1]
    unfold negStep
    split
    · rename_i hc
      rw [hc, getD_set (by have := hin.1; have := hin.2; omega)]
      by_cases hf : e.lit.fact.toNat = f
      · rw [if_pos hf]
        have : (e.lit.fact == (f : Int)) = true := by simp; have := hin.1; omega
        simp [this]
      · rw [if_neg hf]
        have : (e.lit.fact == (f : Int)) = false := by simp; intro h; exact hf (by omega)
        simp [this]
    · rename_i hc
      have hc : (e.lit.neg && holdsB s e.when_) = false := by simpa using hc
      rw [hc]; simp
theorem pos_get {s : List Int} {n f : Nat} : ∀ {l : List Eff} {b : List Bool}, factsIn n l → b.length = n → (l.foldl (posStep s) b).getD f false = (b.getD f false || posB s l (f : Int))
  | [], b, _, _ => by simp [posB]
  | e :: r, b, hl, hb => by
    have hin := hl e (List.mem_cons_self ..)
    rw [List.foldl_cons, pos_get (fun x hx => hl x (List.mem_cons_of_mem _ hx)) (by rw [pos_len, hb])]
    have e1 : posB s (e :: r) (f : Int) = (((!e.lit.neg && holdsB s e.when_) && e.lit.fact == (f : Int)) || posB s r (f : Int)) := rfl
    rw [e1]
    unfold posStep
    split
    · rename_i hc
      rw [hc, getD_set (by have := hin.1; have := hin.2; omega)]
      by_cases hf : e.lit.fact.toNat = f
      · rw [if_pos hf]
        have : (e.lit.fact == (f : Int)) = true := by simp; have := hin.1; omega
        simp [this]
      · rw [if_neg hf]
        have : (e.lit.fact == (f : Int)) = false := by simp; intro h; exact hf (by omega)
        simp [this]
    · rename_i hc
      have hc : (!e.lit.neg && holdsB s e.when_) = false := by simpa using hc
      rw [hc]; simp
theorem after_get {n : Nat} {s : List Int} {l : List Eff} {f : Nat} (hl : factsIn n l) (hs : ∀ x ∈ s, 0 ≤ x ∧ x < (n : Int)) (hf : f < n) : hasB (afterL n s l) (f : Int) = ((hasB s (f : Int) && !negB s l (f : Int)) || posB s l (f : Int)) := by
  rw [afterL, hasB_listL, afterBits, pos_get hl (by rw [negAll, foldl_len (neg_len s), bitsL_length]), negAll, neg_get hl (bitsL_length _ _), bits_get hs hf]

/-- What the program gathers, sorted, is the state after the action. -/
theorem after_sort {n : Nat} {s : List Int} {l : List Eff} {A A' D : List Int} (hl : factsIn n l) (hs : risingB s n = true) (hA : ∀ x, hasB A x = posB s l x) (hD : ∀ x, hasB D x = negB s l x) (hn : A.Nodup) (hp : A'.Perm A) :
    ((s.filter (fun x => !hasB D x || hasB A x) ++ A'.filter fun x => !hasB s x).mergeSort fun x y => decide (x ≤ y)) = afterL n s l := by
  have hin := rising_in hs
  have hns := inc_nodup (rising_inc hs)
  refine sort_inc ?_ (listL_inc _) fun x => ?_
  · refine List.nodup_append.2 ⟨hns.filter _, (hp.nodup_iff.2 hn).filter _, fun a ha b hb hab => ?_⟩
    subst hab
    have h1 := (List.mem_filter.1 ha).1
    have h2 := (List.mem_filter.1 hb).2
    rw [hasB_mem.2 h1] at h2; cases h2
  · have key : ∀ f : Nat, f < n → ((f : Int) ∈ (s.filter (fun x => !hasB D x || hasB A x) ++ A'.filter fun x => !hasB s x) ↔ hasB (afterL n s l) (f : Int) = true) := by
      intro f hf
      rw [after_get hl hin hf, List.mem_append, List.mem_filter, List.mem_filter, hp.mem_iff, ← hasB_mem (l := s), ← hasB_mem (l := A), hA, hD]
      cases hasB s (f : Int) <;> cases negB s l (f : Int) <;> cases posB s l (f : Int) <;> simp
    have hmemA : ∀ x ∈ A, 0 ≤ x ∧ x < (n : Int) := fun x hx => by
      have := hasB_mem.2 hx
      rw [hA, posB, List.any_eq_true] at this
      obtain ⟨e, he, h⟩ := this
      simp only [Bool.and_eq_true, beq_iff_eq] at h
      rw [← h.2]; exact hl e he
    constructor
    · intro hx
      have hr : 0 ≤ x ∧ x < (n : Int) := by
        rcases List.mem_append.1 hx with h | h
        · exact hin x (List.mem_filter.1 h).1
        · exact hmemA x (hp.mem_iff.1 (List.mem_filter.1 h).1)
      obtain ⟨f, rfl⟩ : ∃ f : Nat, x = (f : Int) := ⟨x.toNat, by omega⟩
      exact hasB_mem.1 ((key f (by omega)).1 hx)
    · intro hx
      have hr := after_in n s l x hx
      obtain ⟨f, rfl⟩ : ∃ f : Nat, x = (f : Int) := ⟨x.toNat, by omega⟩
      exact (key f (by omega)).2 (hasB_mem.2 hx)

theorem upd_kvN (x : Int) {l : List Int} (hn : l.Nodup) : ∃ m, updKV (.int .i64 x) (.v (.bool true)) (kvI l) = kvI m ∧ (∀ y, hasB m y = (hasB l y || x == y)) ∧ m.Nodup ∧ m.length ≤ l.length + 1 := by
  have key : ∀ l : List Int, updKV (.int .i64 x) (.v (.bool true)) (kvI l) = kvI (if hasB l x = true then l else l ++ [x]) := by
    intro l
    induction l with
    | nil => rfl
    | cons z r ih =>
      by_cases h : x = z
      · subst h
        simp only [kvI, List.map_cons, updKV]
        rw [if_pos (show sameK (.int .i64 x) (.int .i64 x) = true by simp [sameK]), if_pos (by simp [hasB])]
        rfl
      · simp only [kvI, List.map_cons, updKV] at ih ⊢
        rw [if_neg (show ¬ sameK (.int .i64 x) (.int .i64 z) = true by simpa [sameK] using h), ih]
        have h2 : (z == x) = false := by simpa using fun hh => h hh.symm
        have e : hasB (z :: r) x = hasB r x := by simp only [hasB, List.any_cons, h2, Bool.false_or]
        rw [e]
        split <;> rfl
  refine ⟨_, key l, fun y => ?_, ?_, ?_⟩
  · split
    · rename_i hx
      by_cases hxy : x = y
      · subst hxy; rw [hx]; simp
      · have : (x == y) = false := by simpa using hxy
        rw [this, Bool.or_false]
    · exact hasB_snoc l x y
  · split
    · exact hn
    · rename_i hx
      refine List.nodup_append.2 ⟨hn, by simp, fun a ha b hb hab => ?_⟩
      simp at hb; subst hb; subst hab
      exact hx (hasB_mem.2 ha)
  · split <;> simp

end Go.Fw

/- What the program's functions do, part 38: the state after an action. -/
namespace Go.Fw
open Go Go.Proofs
set_option maxRecDepth 10000

theorem accV_ne {σ sz : Nat} {es : List (List T)} (h : es ≠ []) : accV σ sz es = .osl (.cur σ) sz 0 es.length := by
  cases es with
  | nil => exact absurd rfl h
  | cons x r => rfl
theorem accO_ne {σ e sz : Nat} {es : List (List T)} (h : es ≠ []) : accO σ e sz es = [(σ, .row e sz es)] := by
  cases es with
  | nil => exact absurd rfl h
  | cons x r => rfl
theorem kvI_erase : ∀ (R : List Int) (i : Nat), (kvI R).eraseIdx i = kvI (R.eraseIdx i)
  | [], _ => rfl
  | _ :: _, 0 => rfl
  | _ :: r, i + 1 => congrArg (_ :: ·) (kvI_erase r i)
theorem kvI_get {R : List Int} {i : Nat} {p : Value × T} (h : (kvI R)[i]? = some p) : ∃ x, R[i]? = some x ∧ p = (.int .i64 x, .v (.bool true)) := by
  rw [kvI, List.getElem?_map] at h
  cases hx : R[i]? with
  | none => rw [hx] at h; cases h
  | some x => rw [hx] at h; cases h; exact ⟨x, rfl, rfl⟩
theorem posB_step {s : List Int} {l : List Eff} {i : Nat} (hi : i < l.length) (x : Int) : posB s (l.take (i + 1)) x = (posB s (l.take i) x || ((!l[i].lit.neg && holdsB s l[i].when_) && l[i].lit.fact == x)) := by
  rw [posB, List.take_add_one, List.getElem?_eq_getElem hi, Option.toList_some, List.any_append]; simp [posB]
theorem negB_step {s : List Int} {l : List Eff} {i : Nat} (hi : i < l.length) (x : Int) : negB s (l.take (i + 1)) x = (negB s (l.take i) x || ((l[i].lit.neg && holdsB s l[i].when_) && l[i].lit.fact == x)) := by
  rw [negB, List.take_add_one, List.getElem?_eq_getElem hi, Option.toList_some, List.any_append]; simp [negB]
theorem filter_step {l : List Int} {p : Int → Bool} {i : Nat} (hi : i < l.length) : (l.take (i + 1)).filter p = (l.take i).filter p ++ if p l[i] then [l[i]] else [] := by
  rw [List.take_add_one, List.getElem?_eq_getElem hi, Option.toList_some, List.filter_append]
  cases h : p l[i] <;> simp [h]
theorem filter_len {l : List Int} {p : Int → Bool} : (l.filter p).length ≤ l.length := List.length_filter_le ..

def kp51 : Kp := [(3, ([0, 5, 6, 16, 17, 18], [104, 112])), (12, ([0, 5, 6, 9, 38, 39, 40], [104, 112, 448])), (18, ([0, 9, 59], [472, 448, 568]))]
theorem f51_spec (n1 : Bool) (s : List Int) (a : Actn) (n : Nat) (hs : risingB s n = true) (hn : n ≤ 1000000000) (hf : factsIn n a.effs) (he : a.effs.length ≤ 1000000) (out : List Fr) :
    SpecP Tryz.prog 51 [.ints n1 s, .act a] out fun r ro => r = .t (sT (afterL n s a.effs)) ∧ ro = [] := by
  refine SpecP.close (Post := fun r ro => ∃ σ, r = accV σ 1 ((afterL n s a.effs).map tI) ∧ ro = accO σ 3 1 ((afterL n s a.effs).map tI)) ?_ ?_
  rotate_left
  · rintro r ro ⟨σ, rfl, rfl⟩
    generalize afterL n s a.effs = L
    cases L with
    | nil => exact ⟨_, .same _, rfl, rfl⟩
    | cons x r =>
      refine ⟨_, .row σ 3 1 0 _ ((x :: r).map tI) (by show look [(σ, _)] σ = _; rw [look_cons, if_pos rfl]; rfl) (by simp), ?_, rfl⟩
      show LV.t (.sl false 1 ((((x :: r).map tI).drop 0).take ((x :: r).map tI).length)) = _
      rw [← take_all]; rfl
  refine spec_body cx_ok kp51 [] (fn := Tryz.f51) (by kernel_rfl) rfl (by kernel_rfl) rfl (by unfold FnOK; kernel_rfl) fun hok => ?_
  have hsl := rising_len hs (by omega)
  refine LoopW.mk (Nat × List Int × List Int) (fun u => u.1 ≤ a.effs.length ∧ (∀ x, hasB u.2.1 x = posB s (a.effs.take u.1) x) ∧ (∀ x, hasB u.2.2 x = negB s (a.effs.take u.1) x) ∧ u.2.1.Nodup ∧ u.2.2.Nodup ∧ u.2.1.length ≤ u.1)
    (fun u => [(0, .ints n1 s), (5, .mpr (.cur 104)), (6, .mpr (.cur 112)), (16, .t (.sl a.en 3 (a.effs.map tEff))), (17, .int (a.effs.map tEff).length), (18, .int u.1)])
    (fun u => ⟨out, [(104, .mp (.int .i64) (kvI u.2.1)), (112, .mp (.int .i64) (kvI u.2.2))]⟩) (fun u => a.effs.length - u.1) (0, [], []) ⟨Nat.zero_le _, fun _ => rfl, fun _ => rfl, .nil, .nil, Nat.le_refl _⟩ ⟨rfl, rfl⟩ ?_
  rintro ⟨i, A, D⟩ ⟨hi0, hA, hD, hAn, hDn, hAl⟩
  simp only at hi0 hA hD hAn hDn hAl
  refine And.intro (fun h1 => ?_) fun h1 => ?_
  · have hi := lt_of_dec h1
    refine And.intro (by omega) (Exists.intro _ (And.intro (get_map hi) ?_))
    refine SpecP.mono (f50_spec n1 a.effs[i].nil s a.effs[i].when_ n hs (by omega) []) ?_
    rintro _ _ ⟨rfl, rfl⟩
    have fin : ∀ (A' D' : List Int), (∀ x, hasB A' x = (hasB A x || ((!a.effs[i].lit.neg && holdsB s a.effs[i].when_) && a.effs[i].lit.fact == x))) → (∀ x, hasB D' x = (hasB D x || ((a.effs[i].lit.neg && holdsB s a.effs[i].when_) && a.effs[i].lit.fact == x))) → A'.Nodup → D'.Nodup → A'.length ≤ i + 1 →
        (i + 1 ≤ a.effs.length ∧ (∀ x, hasB A' x = posB s (a.effs.take (i + 1)) x) ∧ (∀ x, hasB D' x = negB s (a.effs.take (i + 1)) x) ∧ A'.Nodup ∧ D'.Nodup ∧ A'.length ≤ i + 1) := fun A' D' h1 h2 h3 h4 h5 =>
      ⟨hi, fun x => by rw [h1, posB_step hi, hA], fun x => by rw [h2, negB_step hi, hD], h3, h4, h5⟩
    refine And.intro (fun h2 => ?_) fun h2 => ?_
    · refine And.intro (fun h3 => ?_) fun h3 => ?_
      · obtain ⟨m, g1, g2, g3, _⟩ := upd_kvN a.effs[i].lit.fact hDn
        refine And.intro (by omega) (And.intro (by omega) ?_)
        refine Exists.intro (i + 1, A, m) (And.intro (by show a.effs.length - (i + 1) < a.effs.length - i; omega) (And.intro (fin A m (fun x => by rw [h3]; simp) (fun x => by rw [g2, h2, h3]; simp) hAn g3 (by omega)) (And.intro rfl ?_)))
        show (⟨out, [(104, .mp (.int .i64) (kvI A)), (112, .mp (.int .i64) (updKV (.int .i64 a.effs[i].lit.fact) (.v (.bool true)) (kvI D)))]⟩ : St) = _
        rw [g1]
      · obtain ⟨m, g1, g2, g3, g4⟩ := upd_kvN a.effs[i].lit.fact hAn
        refine And.intro (by omega) (And.intro (by omega) ?_)
        refine Exists.intro (i + 1, m, D) (And.intro (by show a.effs.length - (i + 1) < a.effs.length - i; omega) (And.intro (fin m D (fun x => by rw [g2, h2, h3]; simp) (fun x => by rw [h3]; simp) g3 hDn (by omega)) (And.intro rfl ?_)))
        show (⟨out, [(104, .mp (.int .i64) (updKV (.int .i64 a.effs[i].lit.fact) (.v (.bool true)) (kvI A))), (112, .mp (.int .i64) (kvI D))]⟩ : St) = _
        rw [g1]
    · refine And.intro (by omega) (And.intro (by omega) ?_)
      exact Exists.intro (i + 1, A, D) (And.intro (by show a.effs.length - (i + 1) < a.effs.length - i; omega) (And.intro (fin A D (fun x => by rw [h2]; simp) (fun x => by rw [h2]; simp) hAn hDn (by omega)) (And.intro rfl rfl)))
  have hi : a.effs.length ≤ i := ge_of_dec h1
  rw [List.take_of_length_le hi] at hA hD
  have hAl : A.length ≤ 1000000 := by omega
  clear h1 hi hi0
  -- what stays
  refine LoopW.mk (Nat × List Int) (fun u => u.1 ≤ s.length ∧ u.2 = (s.take u.1).filter (fun x => !hasB D x || hasB A x)) (fun u => [(0, .ints n1 s), (5, .mpr (.cur 104)), (6, .mpr (.cur 112)), (9, accV 448 1 (u.2.map tI)), (38, .ints n1 s), (39, .int (s.map tI).length), (40, .int u.1)])
    (fun u => ⟨out, (104, .mp (.int .i64) (kvI A)) :: (112, .mp (.int .i64) (kvI D)) :: accO 448 3 1 (u.2.map tI)⟩) (fun u => s.length - u.1) (0, []) ⟨Nat.zero_le _, rfl⟩ ⟨rfl, rfl⟩ ?_
  rintro ⟨j, L⟩ ⟨hj0, hL⟩
  simp only at hj0 hL
  have hLl : L.length ≤ s.length := by rw [hL]; exact Nat.le_trans filter_len (by simp; omega)
  have hpl : ∀ {x : Int}, (!hasB D x || hasB A x) = false → hasB D x = true ∧ hasB A x = false := fun {x} h => by
    cases h1 : hasB D x <;> cases h2 : hasB A x <;> simp [h1, h2] at h ⊢
  rcases L with _ | ⟨y, r⟩
  all_goals
    refine And.intro (fun h1 => ?_) fun h1 => ?_
    · have hj := lt_of_dec h1
      have stp := filter_step (l := s) (p := fun x => !hasB D x || hasB A x) hj
      rw [← hL] at stp
      have hlen := hok.1.1
      refine And.intro (by omega) (Exists.intro _ (And.intro (get_map hj) ?_))
      refine Exists.intro _ (And.intro (look_kvI _ _) ?_)
      refine And.intro (fun h2 => ?_) fun h2 => ?_
      · refine Exists.intro _ (And.intro (look_kvI _ _) ?_)
        refine And.intro (fun h3 => ?_) fun h3 => ?_
        · have hp : (!hasB D s[j] || hasB A s[j]) = true := by rw [h2, h3]; rfl
          simp only [hp, if_true] at stp
          first
            | (refine And.intro (Nat.le_of_ble_eq_true rfl) (And.intro (Nat.le_of_ble_eq_true rfl) (And.intro (Nat.le_of_ble_eq_true rfl) ?_))
               refine And.intro (by omega) (And.intro (by omega) ?_)
               exact Exists.intro (j + 1, [s[j]]) (And.intro (by show s.length - (j + 1) < s.length - j; omega) (And.intro ⟨hj, stp.symm⟩ (And.intro rfl rfl))))
            | (have hl2 : ((tI y :: r.map tI) ++ [tI s[j]]).length ≤ s.length + 1 := by simp at hLl ⊢; omega
               refine And.intro (Nat.le_of_ble_eq_true rfl) (And.intro rfl (And.intro (by show ((tI y :: r.map tI) ++ [tI s[j]]).length * 8 ≤ _; omega) (And.intro (by show ((tI y :: r.map tI) ++ [tI s[j]]).length ≤ _; omega) ?_)))
               refine And.intro (by omega) (And.intro (by omega) ?_)
               have e : (r ++ [s[j]]).map tI = r.map tI ++ [tI s[j]] := by simp
               refine Exists.intro (j + 1, y :: (r ++ [s[j]])) (And.intro (by show s.length - (j + 1) < s.length - j; omega) (And.intro ⟨hj, stp.symm⟩ ?_))
               simp only [List.map_cons, e]
               exact And.intro rfl rfl)
        · have hp : (!hasB D s[j] || hasB A s[j]) = false := by rw [h2, h3]; rfl
          simp only [hp, Bool.false_eq_true, if_false, List.append_nil] at stp
          refine And.intro (by omega) (And.intro (by omega) ?_)
          exact Exists.intro (j + 1, _) (And.intro (by show s.length - (j + 1) < s.length - j; omega) (And.intro ⟨hj, stp.symm⟩ (And.intro rfl rfl)))
      · have hp : (!hasB D s[j] || hasB A s[j]) = true := by rw [h2]; rfl
        simp only [hp, if_true] at stp
        first
          | (refine And.intro (Nat.le_of_ble_eq_true rfl) (And.intro (Nat.le_of_ble_eq_true rfl) (And.intro (Nat.le_of_ble_eq_true rfl) ?_))
             refine And.intro (by omega) (And.intro (by omega) ?_)
             exact Exists.intro (j + 1, [s[j]]) (And.intro (by show s.length - (j + 1) < s.length - j; omega) (And.intro ⟨hj, stp.symm⟩ (And.intro rfl rfl))))
          | (have hl2 : ((tI y :: r.map tI) ++ [tI s[j]]).length ≤ s.length + 1 := by simp at hLl ⊢; omega
             refine And.intro (Nat.le_of_ble_eq_true rfl) (And.intro rfl (And.intro (by show ((tI y :: r.map tI) ++ [tI s[j]]).length * 8 ≤ _; omega) (And.intro (by show ((tI y :: r.map tI) ++ [tI s[j]]).length ≤ _; omega) ?_)))
             refine And.intro (by omega) (And.intro (by omega) ?_)
             have e : (r ++ [s[j]]).map tI = r.map tI ++ [tI s[j]] := by simp
             refine Exists.intro (j + 1, y :: (r ++ [s[j]])) (And.intro (by show s.length - (j + 1) < s.length - j; omega) (And.intro ⟨hj, stp.symm⟩ ?_))
             simp only [List.map_cons, e]
             exact And.intro rfl rfl)
    have hj : s.length ≤ j := ge_of_dec h1
    rw [List.take_of_length_le hj] at hL
    have hbig : ∀ {L1 Pd R : List Int}, L1.length ≤ s.length → (Pd ++ R).Perm A → (L1 ++ Pd.filter fun x => !hasB s x).length ≤ 1001000000 := fun {L1 Pd R} h1 h2 => by
      have h3 := h2.length_eq
      have h4 := filter_len (l := Pd) (p := fun x => !hasB s x)
      rw [List.length_append] at h3 ⊢; omega
    first
      | refine LoopW.mk ((Value × T) × List Int × List Int) (fun u => ∃ Pd, (Pd ++ u.2.1).Perm A ∧ u.2.2 = [] ++ Pd.filter fun x => !hasB s x) (fun u => [(0, .ints n1 s), (9, accV 568 1 (u.2.2.map tI)), (59, .ptr (.cur 472) 0)])
          (fun u => ⟨out, (472, .mit (.cur 104) (u.1 :: kvI u.2.1)) :: accO 568 3 1 (u.2.2.map tI)⟩) (fun u => u.2.1.length) ((.slice none 0 0, .v (.bool false)), A, []) ⟨[], List.Perm.refl _, rfl⟩ ⟨rfl, rfl⟩ ?_
      | refine LoopW.mk ((Value × T) × List Int × List Int) (fun u => ∃ Pd, (Pd ++ u.2.1).Perm A ∧ u.2.2 = (y :: r) ++ Pd.filter fun x => !hasB s x) (fun u => [(0, .ints n1 s), (9, accV 448 1 (u.2.2.map tI)), (59, .ptr (.cur 472) 0)])
          (fun u => ⟨out, (472, .mit (.cur 104) (u.1 :: kvI u.2.1)) :: accO 448 3 1 (u.2.2.map tI)⟩) (fun u => u.2.1.length) ((.slice none 0 0, .v (.bool false)), A, y :: r) ⟨[], List.Perm.refl _, by simp⟩ ⟨rfl, rfl⟩ ?_
    rintro ⟨c, R, L⟩ ⟨Pd, hP, hL3⟩
    simp only at hP hL3
    have hLl3 : L.length ≤ 1001000000 := by rw [hL3]; exact hbig hLl hP
    rcases L with _ | ⟨z, q⟩
    all_goals
      first
        | (exfalso; simp at hL3; done)
        | (refine And.intro (fun hz => ?_) fun i p hp => ?_
           · have hR : R = [] := by
               cases R with
               | nil => rfl
               | cons _ _ => cases hz
             rw [hR, List.append_nil] at hP
             have hS := after_sort (n := n) (l := a.effs) (A' := Pd) (D := D) hf hs hA hD hAn hP
             rw [← hL, ← hL3] at hS
             refine And.intro (fun h => Bool.noConfusion h) fun _ => ?_
             first
               | (have hS0 : afterL n s a.effs = [] := by rw [← hS]; exact List.mergeSort_nil ..
                  exact Exists.intro [568] ⟨568, by rw [hS0]; rfl, by rw [hS0]; rfl⟩)
               | (refine Exists.intro (z :: q) (And.intro rfl (And.intro (by simp) (And.intro (by omega) ?_)))
                  have hlm : ((z :: q).mergeSort fun x y => decide (x ≤ y)).length = (z :: q).length := List.length_mergeSort ..
                  have hne : (afterL n s a.effs).map tI ≠ [] := fun h => by
                    rw [← hS] at h
                    have := congrArg List.length h
                    rw [List.length_map, hlm] at this
                    simp at this
                  have hln : ((afterL n s a.effs).map tI).length = ((z :: q).map tI).length := by rw [← hS]; simp
                  first
                    | (refine Exists.intro [568] ⟨568, ?_, ?_⟩
                       · rw [accV_ne hne, hln]; rfl
                       · rw [accO_ne hne, ← hS]; rfl)
                    | (refine Exists.intro [448] ⟨448, ?_, ?_⟩
                       · rw [accV_ne hne, hln]; rfl
                       · rw [accO_ne hne, ← hS]; rfl))
           · obtain ⟨x, hx, rfl⟩ := kvI_get hp
             have hil : i < R.length := (List.getElem?_eq_some_iff.1 hx).1
             have hms : (R.eraseIdx i).length < R.length := by rw [List.length_eraseIdx_of_lt hil]; omega
             have hP' : ((Pd ++ [x]) ++ R.eraseIdx i).Perm A := by
               rw [List.append_assoc]
               exact ((perm_eraseIdx hx).symm.append_left Pd).trans hP
             refine And.intro (fun _ => ?_) fun h => Bool.noConfusion h
             refine SpecP.mono (f70_spec n1 s n x hs (by omega) []) ?_
             rintro _ _ ⟨rfl, rfl⟩
             refine And.intro (fun h3 => ?_) fun h3 => ?_
             · first
                 | (refine Exists.intro ((.int .i64 x, .v (.bool true)), R.eraseIdx i, []) (And.intro hms (And.intro ⟨Pd ++ [x], hP', ?_⟩ (And.intro rfl ?_)))
                    · show _ = _ ++ (Pd ++ [x]).filter fun x => !hasB s x
                      rw [show (Pd ++ [x]).filter (fun x => !hasB s x) = Pd.filter fun x => !hasB s x by rw [List.filter_append]; simp [h3]]; exact hL3
                    · simp only [← kvI_erase]; rfl)
                 | (refine Exists.intro ((.int .i64 x, .v (.bool true)), R.eraseIdx i, z :: q) (And.intro hms (And.intro ⟨Pd ++ [x], hP', ?_⟩ (And.intro rfl ?_)))
                    · show _ = _ ++ (Pd ++ [x]).filter fun x => !hasB s x
                      rw [show (Pd ++ [x]).filter (fun x => !hasB s x) = Pd.filter fun x => !hasB s x by rw [List.filter_append]; simp [h3]]; exact hL3
                    · simp only [← kvI_erase]; rfl)
             · have hfx : (Pd ++ [x]).filter (fun x => !hasB s x) = (Pd.filter fun x => !hasB s x) ++ [x] := by rw [List.filter_append]; simp [h3]
               first
                 | (refine And.intro (Nat.le_of_ble_eq_true rfl) (And.intro (Nat.le_of_ble_eq_true rfl) (And.intro (Nat.le_of_ble_eq_true rfl) ?_))
                    refine Exists.intro ((.int .i64 x, .v (.bool true)), R.eraseIdx i, [x]) (And.intro hms (And.intro ⟨Pd ++ [x], hP', ?_⟩ (And.intro rfl ?_)))
                    · show [x] = _ ++ (Pd ++ [x]).filter fun x => !hasB s x
                      rw [hfx, ← List.append_assoc, ← hL3]; rfl
                    · simp only [← kvI_erase]; rfl)
                 | (have hl2 : ((tI z :: q.map tI) ++ [tI x]).length ≤ 1001000001 := by simp at hLl3 ⊢; omega
                    refine And.intro (Nat.le_of_ble_eq_true rfl) (And.intro rfl (And.intro (by show ((tI z :: q.map tI) ++ [tI x]).length * 8 ≤ _; omega) (And.intro (by show ((tI z :: q.map tI) ++ [tI x]).length ≤ _; omega) ?_)))
                    have e : (q ++ [x]).map tI = q.map tI ++ [tI x] := by simp
                    refine Exists.intro ((.int .i64 x, .v (.bool true)), R.eraseIdx i, z :: (q ++ [x])) (And.intro hms (And.intro ⟨Pd ++ [x], hP', ?_⟩ ?_))
                    · show z :: (q ++ [x]) = _ ++ (Pd ++ [x]).filter fun x => !hasB s x
                      rw [hfx, ← List.append_assoc, ← hL3]; rfl
                    · simp only [List.map_cons, e, ← kvI_erase]
                      exact And.intro rfl rfl))

end Go.Fw

/- What the program's functions do, part 39: copies of lists, lists of actions. -/
namespace Go.Fw
open Go Go.Proofs
set_option maxRecDepth 10000

theorem vt_nil {RO : Nat → Prop} {w : World} {v : Value} {b : Bool} {sz : Nat} {es : List (List T)} (h : VT RO w (.sl b sz es) v) : b = true → es = [] := fun hb => by
  cases h <;> first | rfl | cases hb
/-- A nil argument has no elements. -/
theorem SpecP.nil_arg {P : Program} {f : Nat} {args : List LV} {out : List Fr} {Post : LV → Fr → Prop} {i : Nat} {n1 : Bool} {s : List Int} (hi : args[i]? = some (.ints n1 s)) (hfn : FnOK P f) (h : (n1 = true → s = []) → SpecP P f args out Post) : SpecP P f args out Post :=
  ⟨hfn, fun β RO w vals hw hv => (h fun hn => by
    have hl : i < vals.length := by rw [← hv.1]; exact (List.getElem?_eq_some_iff.1 hi).1
    have hx := hv.2 i _ _ hi (List.getElem?_eq_getElem hl)
    cases hx with
    | t _ _ hx => exact List.map_eq_nil_iff.1 (vt_nil hx hn)).calls β RO w vals hw hv⟩

def inA (t : Task) (x : Int) : Bool := decide (x < 0) || decide (x ≥ t.acts.length)
def kp104 : Kp := [(2, ([0, 1, 7, 8], []))]
theorem planB_any (t : Task) (p : List Int) : planB t p = (decide (p.length ≤ 10000) && !p.any (inA t)) := by
  have : (p.all fun x => decide (0 ≤ x) && decide (x < t.acts.length)) = !p.any (inA t) := by
    rw [List.not_any_eq_all_not]
    congr 1; funext x
    rw [inA, Bool.eq_iff_iff]; simp
  rw [planB, this]
/-! ### The states of a run -/
theorem rising_of {l : List Int} {n : Int} (h : l.Pairwise (· < ·)) (h2 : ∀ x ∈ l, 0 ≤ x ∧ x < n) : risingB l n = true := by
  rw [risingB, List.all_eq_true]
  intro i hi
  have hi : i < l.length := List.mem_range.1 hi
  have h3 := h2 _ (List.getElem_mem hi)
  simp only [chkI, at0_eq hi, Bool.and_eq_true, Bool.or_eq_true, decide_eq_true_eq, beq_iff_eq]
  refine ⟨h3, ?_⟩
  cases i with
  | zero => exact .inl rfl
  | succ i => right; rw [Nat.add_sub_cancel, at0_eq (show i < l.length by omega)]; exact List.pairwise_iff_getElem.1 h i (i + 1) (by omega) hi (by omega)
theorem after_rising (n : Nat) (s : List Int) (l : List Eff) : risingB (afterL n s l) n = true := rising_of (listL_inc _) (after_in n s l)
theorem st_rising {t : Task} {s p : List Int} (hs : risingB s t.facts.length = true) : ∀ i, risingB (stAt t s p i) t.facts.length = true
  | 0 => hs
  | _ + 1 => after_rising ..

/-- Is the state after i actions nil? -/
def stN (n1 : Bool) (t : Task) (s p : List Int) : Nat → Bool
  | 0 => n1
  | i + 1 => (stAt t s p (i + 1)).isEmpty
def tIs (b : Bool) (s : List Int) : T := .sl b 1 (s.map tI)
def stTs (n1 : Bool) (t : Task) (s p : List Int) (k : Nat) : List (List T) := (List.range (k + 1)).map fun j => [tIs (stN n1 t s p j) (stAt t s p j)]
theorem stTs_len (n1 : Bool) (t : Task) (s p : List Int) (k : Nat) : (stTs n1 t s p k).length = k + 1 := by simp [stTs]
theorem stTs_step (n1 : Bool) (t : Task) (s p : List Int) (k : Nat) : stTs n1 t s p (k + 1) = stTs n1 t s p k ++ [[tIs (stN n1 t s p (k + 1)) (stAt t s p (k + 1))]] := by
  rw [stTs, List.range_succ, List.map_append]; rfl
theorem stTs_get {n1 : Bool} {t : Task} {s p : List Int} {k j : Nat} (h : j ≤ k) : (stTs n1 t s p k)[j]? = some [tIs (stN n1 t s p j) (stAt t s p j)] := by
  rw [stTs, List.getElem?_map, List.getElem?_range (by omega)]; rfl

theorem f51i_spec (n1 : Bool) (s : List Int) (a : Actn) (n : Nat) (hs : risingB s n = true) (hn : n ≤ 1000000000) (hf : factsIn n a.effs) (he : a.effs.length ≤ 1000000) (out : List Fr) :
    SpecP Tryz.prog 51 [.ints n1 s, .act a] out fun r ro => r = .ints (afterL n s a.effs).isEmpty (afterL n s a.effs) ∧ ro = [] :=
  (f51_spec n1 s a n hs hn hf he out).close fun r ro h => by
    obtain ⟨rfl, rfl⟩ := h
    generalize afterL n s a.effs = L
    cases L with
    | nil => exact ⟨_, .nil 0 1, rfl, rfl⟩
    | cons x r => exact ⟨_, .same _, rfl, rfl⟩

end Go.Fw

/- Texts that lead to the law, part 10. -/
import Derived.Test.YtejchboadljglaaZI

/- What the program's functions do, part 28: Reach, Landmark; lists of actions. -/
namespace Go.Fw
open Go Go.Proofs
set_option maxRecDepth 10000

def asksI (t : Task) (s l : List Int) : Int := if fineI t s = 0 then (if risingB l t.acts.length then 0 else 1) else fineI t s
theorem f74_spec (t : Task) (n1 n2 : Bool) (s l : List Int) (out : List Fr) : SpecP Try.prog 74 [.task t, .ints n1 s, .ints n2 l] out fun r ro => r = .int (asksI t s l) ∧ ro = [] := by
  refine spec_body cx_ok [] [] (fn := Try.f74) (by kernel_rfl) rfl (by kernel_rfl) rfl (by unfold FnOK; kernel_rfl) fun hok => ?_
  refine SpecP.mono (f54_spec t n1 s []) ?_
  rintro _ _ ⟨rfl, rfl⟩
  refine And.intro (fun h0 => ?_) fun h0 => ?_
  · have h0 : fineI t s ≠ 0 := by simpa using h0
    exact Exists.intro [] ⟨by rw [asksI, if_neg h0]; rfl, rfl⟩
  have h0 : fineI t s = 0 := by simpa using h0
  refine SpecP.mono (f71_spec n2 l (t.acts.map tAct).length []) ?_
  rintro _ _ ⟨rfl, rfl⟩
  rw [List.length_map]
  refine And.intro (fun h1 => ?_) fun h1 => ?_
  · exact Exists.intro [] ⟨by rw [asksI, if_pos h0, h1]; rfl, rfl⟩
  · exact Exists.intro [] ⟨by rw [asksI, if_pos h0, h1]; rfl, rfl⟩

theorem f33_spec (t : Task) (n2 : Bool) (l : List Int) (ht : isB t = true) (out : List Fr) : SpecP Try.prog 33 [.task t, .ints n2 l] out fun r ro =>
    (risingB l t.acts.length = false ∧ r = .tup [.t (.sl true 0 []), .bool false] ∧ ro = []) ∨
    (risingB l t.acts.length = true ∧ r = .tup [.osl (.cur 129000459) 1 0 t.acts.length, .bool true] ∧ ro = [(129000459, .row 4 1 ((bitsL t.acts.length l).map tB))]) := by
  refine spec_body cx_ok [] [] (fn := Try.f33) (by kernel_rfl) rfl (by kernel_rfl) rfl (by unfold FnOK; kernel_rfl) fun hok => ?_
  have hA := (task_ok ht).acts
  have hal : (t.acts.map tAct).length = t.acts.length := List.length_map ..
  refine SpecP.mono (f73_spec n2 l (t.acts.map tAct).length []) ?_
  rintro _ _ ⟨rfl, rfl⟩
  rw [hal]
  refine And.intro (fun h1 => ?_) fun h1 => ?_
  · refine SpecP.mono (f69_spec (t.acts.map tAct).length n2 l (by omega) (by rw [hal]; exact rising_in h1) []) ?_
    rintro _ _ ⟨rfl, rfl⟩
    rw [hal]
    exact Exists.intro [129000459] (.inr ⟨h1, rfl, rfl⟩)
  · exact Exists.intro [] (.inl ⟨h1, rfl, rfl⟩)

theorem asks_ok {t : Task} {s l : List Int} (h : asksI t s l = 0) : fineI t s = 0 ∧ risingB l t.acts.length = true := by
  unfold asksI at h
  split at h
  · rename_i h0
    split at h
    · rename_i h1; exact ⟨h0, h1⟩
    · cases h
  · rename_i h0; exact absurd h h0

def od35 : Od := [(4, [(0, .pure), (1, .pure), (2, .pure), (4, .pure), (5, .pure), (3, .eff), (6, .eff), (7, .pure), (8, .pure), (9, .pure)])]
theorem f35_spec (t : Task) (n1 n2 : Bool) (s l : List Int) (out : List Fr) : SpecP Try.prog 35 [.task t, .ints n1 s, .ints n2 l] out fun r ro =>
    (asksI t s l ≠ 0 ∧ r = .tup [.bool false, .int (asksI t s l)] ∧ ro = []) ∨ (asksI t s l = 0 ∧ r = .tup [.bool (!allR t s (cntO l) t.goal), .int 0] ∧ ro = []) := by
  refine spec_body cx_ok [] od35 (fn := Try.f35) (by kernel_rfl) rfl (by kernel_rfl) rfl (by unfold FnOK; kernel_rfl) fun hok => ?_
  refine SpecP.mono (f74_spec t n1 n2 s l []) ?_
  rintro _ _ ⟨rfl, rfl⟩
  refine And.intro (fun h0 => ?_) fun h0 => ?_
  · exact Exists.intro [] (.inl ⟨by simpa using h0, rfl, rfl⟩)
  have h0 : asksI t s l = 0 := by simpa using h0
  obtain ⟨h1, h2⟩ := asks_ok h0
  obtain ⟨ht, hs⟩ := hts_of h1
  have TK := task_ok ht
  refine SpecP.mono (f60_spec t n1 n2 s l ht hs []) ?_
  rintro _ _ ⟨b, hb, rfl, rfl⟩
  refine And.intro ⟨rfl, rfl, rfl⟩ ?_
  refine Exists.intro (b.map tB) (And.intro (lend rfl) (And.intro (lend2 rfl) ?_))
  refine SpecP.mono (f57_spec false t.gn b t.goal (fun x hx => (TK.goal x hx).inB TK.facts hb.len) _) ?_
  rintro _ _ ⟨rfl, rfl⟩
  refine And.intro trivial (And.intro trivial (And.intro ⟨rfl, rfl, rfl⟩ ?_))
  rw [hb.all]
  refine And.intro (fun h3 => ?_) fun h3 => ?_
  · exact Exists.intro [] (.inr ⟨h0, by rw [h3]; rfl, rfl⟩)
  · exact Exists.intro [] (.inr ⟨h0, by rw [h3]; rfl, rfl⟩)

def kp34 : Kp := [(7, ([3, 10, 11, 25, 26, 27], [24, 378001318, 296]))]
theorem f34_spec (t : Task) (n1 n2 : Bool) (s l : List Int) (out : List Fr) : SpecP Try.prog 34 [.task t, .ints n1 s, .ints n2 l] out fun r ro =>
    (asksI t s l ≠ 0 ∧ r = .tup [.t (.sl true 0 []), .bool false, .int (asksI t s l)] ∧ ro = []) ∨
    (asksI t s l = 0 ∧ ∃ b, IsR t s (cntO l) b ∧ r = .tup [accV 296 2 (((listL b).map litI).map tLit), .bool (allR t s (cntO l) t.goal), .int 0] ∧ ro = accO 296 50 2 (((listL b).map litI).map tLit)) := by
  refine spec_body cx_ok kp34 [] (fn := Try.f34) (by kernel_rfl) rfl (by kernel_rfl) rfl (by unfold FnOK; kernel_rfl) fun hok => ?_
  refine SpecP.mono (f74_spec t n1 n2 s l []) ?_
  rintro _ _ ⟨rfl, rfl⟩
  refine And.intro (fun h0 => ?_) fun h0 => ?_
  · exact Exists.intro [] (.inl ⟨by simpa using h0, rfl, rfl⟩)
  have h0 : asksI t s l = 0 := by simpa using h0
  obtain ⟨h1, h2⟩ := asks_ok h0
  obtain ⟨ht, hs⟩ := hts_of h1
  have TK := task_ok ht
  have hN := TK.facts
  refine SpecP.mono (f60_spec t n1 n2 s l ht hs []) ?_
  rintro _ _ ⟨b, hb, rfl, rfl⟩
  have hbl := hb.len
  refine LoopW.mk (Nat × List Int) (fun p => p.1 ≤ b.length ∧ p.2 = listL (b.take p.1)) (fun p => [(3, .ptr (.cur 24) 0), (10, .osl (.cur 378001318) 1 0 b.length), (11, accV 296 2 ((p.2.map litI).map tLit)), (25, .osl (.cur 378001318) 1 0 b.length), (26, .int b.length), (27, .int p.1)])
    (fun p => ⟨out, (24, .box (cellsTask t)) :: (378001318, .row 4 1 (b.map tB)) :: accO 296 50 2 ((p.2.map litI).map tLit)⟩) (fun p => b.length - p.1) (0, []) ⟨Nat.zero_le _, rfl⟩ ⟨rfl, rfl⟩ ?_
  rintro ⟨i, acc⟩ ⟨hi0, hacc⟩
  simp only at hi0 hacc
  have hget : ∀ hi : i < b.length, (b.map tB)[0 + ((i : Int)).toNat]? = some (tB b[i]) := fun hi => by rw [Nat.zero_add]; exact get_map hi
  cases acc
  case' nil =>
    refine And.intro (fun k1 => ?_) fun k1 => ?_
    · have hi : i < b.length := by have := of_decide_eq_true k1; simp only at this; omega
      have hst := listL_step hi
      refine And.intro (by omega) (And.intro (by omega) (Exists.intro _ (And.intro (hget hi) ?_)))
      refine And.intro (fun k2 => ?_) fun k2 => ?_
      · refine SpecP.mono (f55_spec i (by omega) ⟨by omega, by omega⟩ []) ?_
        rintro _ _ ⟨rfl, rfl⟩
        refine And.intro (Nat.le_of_ble_eq_true rfl) (And.intro (Nat.le_of_ble_eq_true rfl) (And.intro (Nat.le_of_ble_eq_true rfl) ?_))
        refine And.intro (by omega) (And.intro (by omega) ?_)
        exact Exists.intro (i + 1, [(i : Int)]) (And.intro (by show b.length - (i + 1) < b.length - i; omega) (And.intro ⟨hi, by show [(i : Int)] = _; rw [hst, ← hacc, k2]; rfl⟩ (And.intro rfl rfl)))
      · refine And.intro (by omega) (And.intro (by omega) ?_)
        exact Exists.intro (i + 1, []) (And.intro (by show b.length - (i + 1) < b.length - i; omega) (And.intro ⟨hi, by show [] = _; rw [hst, ← hacc, k2]; rfl⟩ (And.intro rfl rfl)))
  case' cons x r =>
    refine And.intro (fun k1 => ?_) fun k1 => ?_
    · have hi : i < b.length := by have := of_decide_eq_true k1; simp only at this; omega
      have hst := listL_step hi
      have hln : (x :: r).length ≤ i := by rw [hacc]; exact listL_len b i
      have hln2 : ((tLit (litI x) :: (r.map litI).map tLit) ++ [tLit (litI i)]).length ≤ i + 1 := by simp at hln ⊢; omega
      have e : ((r ++ [(i : Int)]).map litI).map tLit = (r.map litI).map tLit ++ [tLit (litI i)] := by simp
      refine And.intro (by omega) (And.intro (by omega) (Exists.intro _ (And.intro (hget hi) ?_)))
      refine And.intro (fun k2 => ?_) fun k2 => ?_
      · refine SpecP.mono (f55_spec i (by omega) ⟨by omega, by omega⟩ []) ?_
        rintro _ _ ⟨rfl, rfl⟩
        refine And.intro (Nat.le_of_ble_eq_true rfl) (And.intro rfl (And.intro (Nat.le_trans (Nat.mul_le_mul_right _ hln2) (by show (i + 1) * 16 ≤ _; omega)) (And.intro (Nat.le_trans hln2 (by omega)) ?_)))
        refine And.intro (by omega) (And.intro (by omega) ?_)
        refine Exists.intro (i + 1, x :: (r ++ [(i : Int)])) (And.intro (by show b.length - (i + 1) < b.length - i; omega) (And.intro ⟨hi, by show x :: (r ++ [(i : Int)]) = _; rw [hst, ← hacc, k2]; rfl⟩ ?_))
        simp only [List.map_cons, e]
        exact And.intro rfl rfl
      · refine And.intro (by omega) (And.intro (by omega) ?_)
        exact Exists.intro (i + 1, x :: r) (And.intro (by show b.length - (i + 1) < b.length - i; omega) (And.intro ⟨hi, by show x :: r = _; rw [hst, ← hacc, k2]; simp⟩ (And.intro rfl rfl)))
  all_goals
    have hi : i = b.length := by have := of_decide_eq_false k1; simp only at this; omega
    rw [hi, List.take_length] at hacc
    refine Exists.intro (b.map tB) (And.intro (lend rfl) (And.intro (lend2 rfl) ?_))
    refine SpecP.mono (f57_spec false t.gn b t.goal (fun x hx => (TK.goal x hx).inB TK.facts hb.len) _) ?_
    rintro _ _ ⟨rfl, rfl⟩
    refine And.intro trivial (And.intro trivial ?_)
    rw [hb.all]
    refine And.intro (fun k3 => ?_) fun k3 => ?_
    · refine Exists.intro [296] (.inr ⟨h0, b, hb, ?_, ?_⟩)
      · rw [← hacc, k3]; rfl
      · rw [← hacc]; rfl
    · refine Exists.intro [296] (.inr ⟨h0, b, hb, ?_, ?_⟩)
      · rw [← hacc, k3]; rfl
      · rw [← hacc]; rfl

end Go.Fw

/- What the law MarkReaches does: it answers true. -/
namespace Go.Fw
open Go Go.Proofs
set_option maxRecDepth 10000

theorem cntO_bits {t : Task} (TK : TaskOK t) {l : List Int} (hl : risingB l t.acts.length = true) : ∀ a x e, t.acts[a]? = some x → e ∈ x.effs → cntR (bitsL t.acts.length l) (-1) a e.lit = cntO l a e.lit := fun a x e hx he => by
  have h1 := code_nonneg (TK.lit x (List.mem_of_getElem? hx) e he)
  have h2 : codeI e.lit ≠ -1 := by omega
  have ha := (List.getElem?_eq_some_iff.1 hx).1
  simp only [cntR, cntO, bits_get (rising_in hl) ha, h2, ne_eq, not_false_eq_true, decide_true, Bool.and_true]

theorem f7_spec (t : Task) (n1 n2 : Bool) (s l : List Int) (out : List Fr) : SpecP Try.prog 7 [.task t, .ints n1 s, .ints n2 l] out fun r ro => r = .bool true ∧ ro = [] := by
  refine spec_body cx_ok [] [] (fn := Try.f7) (by kernel_rfl) rfl (by kernel_rfl) rfl (by unfold FnOK; kernel_rfl) fun hok => ?_
  refine SpecP.mono (f13_spec t 300 []) ?_
  rintro _ _ ⟨few, rfl, rfl⟩
  refine And.intro (fun h1 => ?_) fun h1 => ?_
  rotate_left
  · refine SpecP.mono (f14_spec []) ?_
    rintro _ _ ⟨rfl, rfl⟩
    refine And.intro (fun _ => ?_) fun h => Bool.noConfusion h
    exact Exists.intro [] (ret_bool rfl rfl)
  refine And.intro (fun h2 => ?_) fun h2 => ?_
  · refine SpecP.mono (f14_spec []) ?_
    rintro _ _ ⟨rfl, rfl⟩
    refine And.intro (fun _ => ?_) fun h => Bool.noConfusion h
    exact Exists.intro [] (ret_bool rfl rfl)
  refine And.intro (fun h2 => ?_) fun h2 => ?_
  · refine SpecP.mono (f14_spec []) ?_
    rintro _ _ ⟨rfl, rfl⟩
    refine And.intro (fun _ => ?_) fun h => Bool.noConfusion h
    exact Exists.intro [] (ret_bool rfl rfl)
  refine SpecP.mono (f17_spec t n1 s []) ?_
  rintro _ _ ⟨rfl, rfl⟩
  refine And.intro (fun h0 => ?_) fun h0 => ?_
  rotate_left
  · have h0 : fineI t s ≠ 0 := by simpa using h0
    have ha : asksI t s l = fineI t s := by rw [asksI, if_neg h0]
    have m1 := f34_spec t n1 n2 s l []
    have m2 := f35_spec t n1 n2 s l []
    rw [ha] at m1 m2
    refine SpecP.mono m1 ?_
    rintro _ _ (⟨_, rfl, rfl⟩ | ⟨h, _⟩)
    rotate_left
    · exact absurd h h0
    refine And.intro (fun h => Bool.noConfusion h) fun _ => ?_
    refine SpecP.mono m2 ?_
    rintro _ _ (⟨_, rfl, rfl⟩ | ⟨h, _⟩)
    rotate_left
    · exact absurd h h0
    refine And.intro (fun h => Bool.noConfusion h) fun _ => ?_
    refine And.intro (fun _ => ?_) fun h => absurd (by simpa using h) h0
    refine And.intro (fun _ => ?_) fun h => absurd h (by simp)
    refine And.intro (fun _ => ?_) fun h => absurd h (by simp)
    refine And.intro (fun _ => ?_) fun h => absurd h (by decide)
    refine SpecP.mono (f14_spec []) ?_
    rintro _ _ ⟨rfl, rfl⟩
    refine And.intro (fun _ => ?_) fun h => Bool.noConfusion h
    exact Exists.intro [] (ret_bool rfl rfl)
  have h0 : fineI t s = 0 := by simpa using h0
  obtain ⟨ht, hs⟩ := hts_of h0
  have TK := task_ok ht
  refine SpecP.mono (f33_spec t n2 l ht []) ?_
  rintro _ _ (⟨hr, rfl, rfl⟩ | ⟨hr, rfl, rfl⟩)
  · refine And.intro (fun h => Bool.noConfusion h) fun _ => ?_
    have ha : asksI t s l = 1 := by rw [asksI, if_pos h0, hr]; rfl
    have m1 := f34_spec t n1 n2 s l []
    have m2 := f35_spec t n1 n2 s l []
    rw [ha] at m1 m2
    refine SpecP.mono m1 ?_
    rintro _ _ (⟨_, rfl, rfl⟩ | ⟨h, _⟩)
    rotate_left
    · exact absurd h (by decide)
    refine And.intro (fun h => Bool.noConfusion h) fun _ => ?_
    refine SpecP.mono m2 ?_
    rintro _ _ (⟨_, rfl, rfl⟩ | ⟨h, _⟩)
    rotate_left
    · exact absurd h (by decide)
    refine And.intro (fun h => Bool.noConfusion h) fun _ => ?_
    refine And.intro (fun _ => ?_) fun h => absurd h (by decide)
    refine And.intro (fun _ => ?_) fun h => absurd h (by decide)
    refine And.intro (fun _ => ?_) fun h => absurd h (by decide)
    refine And.intro (fun _ => ?_) fun h => absurd h (by decide)
    refine SpecP.mono (f14_spec []) ?_
    rintro _ _ ⟨rfl, rfl⟩
    refine And.intro (fun _ => ?_) fun h => Bool.noConfusion h
    exact Exists.intro [] (ret_bool rfl rfl)
  refine And.intro (fun _ => ?_) fun h => Bool.noConfusion h
  have ha : asksI t s l = 0 := by rw [asksI, if_pos h0, hr]; rfl
  refine SpecP.mono (f34_spec t n1 n2 s l []) ?_
  rintro _ _ (⟨h, _⟩ | ⟨_, b, hb, e1, e2⟩)
  · exact absurd ha h
  have hall := hb.all t.goal
  have m2 := f35_spec t n1 n2 s l []
  generalize allR t s (cntO l) t.goal = g at e1 m2 hall
  have hbl : b.length ≤ 1000000000 := by have := hb.len; have := TK.facts; omega
  have m3 := f36_spec false b hbl
  have hub : ∀ b', IsR t s (cntR (bitsL t.acts.length l) (-1)) b' → b' = b := fun b' hb' => (hb'.congr (cntO_bits TK hr)).unique hb
  generalize (listL b).map litI = F at e1 e2 m3
  subst e1 e2
  cases F
  all_goals
    refine And.intro (fun hg => ?_) fun hg => ?_
    all_goals
      subst hg
      refine SpecP.mono m2 ?_
      rintro _ _ (⟨h, _⟩ | ⟨_, rfl, rfl⟩)
      · exact absurd ha h
      first
        | refine And.intro (fun _ => ?_) fun h => Bool.noConfusion (h : true = false)
        | refine And.intro (fun h => Bool.noConfusion (h : false = true)) fun _ => ?_
      refine And.intro (fun h => absurd h (by simp [h0])) fun _ => ?_
      refine Exists.intro _ (And.intro (lend (bitsL_length _ _)) (And.intro (lend2 (bitsL_length _ _)) ?_))
      refine SpecP.mono (f27_spec t n1 false s (bitsL t.acts.length l) (-1) ht hs (bitsL_length _ _) _) ?_
      rintro _ _ ⟨b', hb', rfl, rfl⟩
      have hbb := hub b' hb'
      subst hbb
      refine And.intro trivial (And.intro ⟨flat_bools, trivial⟩ ?_)
      refine And.intro (fun _ => ?_) fun h => absurd h (by decide)
      refine And.intro (fun _ => ?_) fun h => absurd h (by decide)
      refine Exists.intro (b'.map tB) (And.intro (lend rfl) (And.intro (lend2 rfl) ?_))
      refine SpecP.mono (m3 _) ?_
      rintro _ _ ⟨rfl, rfl⟩
      first
        | refine And.intro trivial (And.intro trivial ?_)
          refine SpecP.conv (conv_nil2 (b := 2)) (SpecP.mono (f18_spec true true [] [] []) ?_)
          rintro _ _ ⟨rfl, rfl⟩
        | refine And.intro trivial (And.intro ⟨flat_lits (b := _ :: _), trivial⟩ ?_)
          refine Exists.intro _ (And.intro take_all (And.intro (by simp) ?_))
          refine Exists.intro _ (And.intro take_all (And.intro (by simp) ?_))
          refine SpecP.mono (f18_spec false false (_ :: _) (_ :: _) _) ?_
          rintro _ _ ⟨rfl, rfl⟩
          refine And.intro trivial (And.intro trivial ?_)
      refine And.intro (fun _ => ?_) fun h => absurd h (by simp)
      refine Exists.intro (b'.map tB) (And.intro (lend rfl) (And.intro (lend2 rfl) ?_))
      refine SpecP.mono (f28_spec false t.gn b' t.goal (fun x hx => (TK.goal x hx).inB TK.facts hb.len) _) ?_
      rintro _ _ ⟨rfl, rfl⟩
      refine And.intro trivial (And.intro trivial ?_)
      rw [hall]
      first
        | refine And.intro (fun _ => ?_) fun h => Bool.noConfusion (h : true = false)
        | refine And.intro (fun h => Bool.noConfusion (h : false = true)) fun _ => ?_
      refine And.intro (fun _ => ?_) fun h => absurd h (by decide)
      refine And.intro (fun _ => ?_) fun h => absurd h (by decide)
      refine SpecP.mono (f14_spec []) ?_
      rintro _ _ ⟨rfl, rfl⟩
      refine And.intro (fun _ => ?_) fun h => Bool.noConfusion h
      exact Exists.intro [] (ret_bool rfl rfl)

end Go.Fw

/- Which cuts are right, and complete: the plain law. -/
namespace Go.Fw
open Go Go.Proofs

structure CutM where
  nil : Bool
  acts : List Int
  cost : Int
def tCutX (c : CutM) : List T := [.sl c.nil 1 (c.acts.map tI), .v (.int .i64 c.cost)]
noncomputable def okC (t : Task) (s : List Int) (c : CutM) : Bool := decide (1 ≤ c.cost) && decide (c.cost ≤ 100000) && risingB c.acts t.acts.length && !allR t s (cntO c.acts) t.goal
def pay (c : CutM) (a : Nat) : Int := if hasB c.acts (a : Int) = true then c.cost else 0
def paid : List CutM → Nat → Int
  | [], _ => 0
  | c :: r, a => pay c a + paid r a
def costA (t : Task) (a : Nat) : Int := match t.acts[a]? with
  | some x => x.cost
  | none => 0
noncomputable def rightB (t : Task) (s : List Int) (l : List CutM) : Bool := l.all (okC t s) && (List.range t.acts.length).all fun a => decide (paid l a ≤ costA t a)
def cntP (t : Task) (l : List CutM) (a : Nat) (_ : Lit) : Bool := paid l a == costA t a

theorem paid_append (l m : List CutM) (a : Nat) : paid (l ++ m) a = paid l a + paid m a := by
  induction l with
  | nil => simp [paid]
  | cons c r ih => simp only [List.cons_append, paid, ih]; omega
theorem paid_take {l : List CutM} {i : Nat} (hi : i < l.length) (a : Nat) : paid (l.take (i + 1)) a = paid (l.take i) a + pay l[i] a := by
  rw [List.take_add_one, List.getElem?_eq_getElem hi, Option.toList_some, paid_append]; simp [paid]
theorem paid_nonneg {l : List CutM} (h : ∀ c ∈ l, 1 ≤ c.cost) (a : Nat) : 0 ≤ paid l a := by
  induction l with
  | nil => exact Int.le_refl _
  | cons c r ih =>
    have h1 := h c (List.mem_cons_self ..)
    have h2 := ih fun x hx => h x (List.mem_cons_of_mem _ hx)
    simp only [paid, pay]
    split <;> omega
theorem okC_cost {t : Task} {s : List Int} {c : CutM} (h : okC t s c = true) : 1 ≤ c.cost ∧ c.cost ≤ 100000 ∧ risingB c.acts t.acts.length = true ∧ allR t s (cntO c.acts) t.goal = false := by
  simp only [okC, Bool.and_eq_true, decide_eq_true_eq, Bool.not_eq_true'] at h
  exact ⟨h.1.1.1, h.1.1.2, h.1.2, h.2⟩
theorem right_parts {t : Task} {s : List Int} {l : List CutM} (h : rightB t s l = true) : (∀ c ∈ l, okC t s c = true) ∧ ∀ a, a < t.acts.length → paid l a ≤ costA t a := by
  simp only [rightB, Bool.and_eq_true, List.all_eq_true, decide_eq_true_eq] at h
  exact ⟨h.1, fun a ha => h.2 a (List.mem_range.2 ha)⟩
theorem right_of {t : Task} {s : List Int} {l : List CutM} (h1 : ∀ c ∈ l, okC t s c = true) (h2 : ∀ a, a < t.acts.length → paid l a ≤ costA t a) : rightB t s l = true := by
  simp only [rightB, Bool.and_eq_true, List.all_eq_true, decide_eq_true_eq]
  exact ⟨h1, fun a ha => h2 a (List.mem_range.1 ha)⟩
theorem not_right {t : Task} {s : List Int} {l : List CutM} {i : Nat} (hi : i < l.length) (h : okC t s l[i] = false) : rightB t s l = false := by
  cases hr : rightB t s l with
  | false => rfl
  | true => rw [(right_parts hr).1 _ (List.getElem_mem hi)] at h; cases h
theorem over_right {t : Task} {s : List Int} {l : List CutM} {i a : Nat} (hi : i < l.length) (ha : a < t.acts.length) (hin : hasB l[i].acts (a : Int) = true) (h : l[i].cost > costA t a - paid (l.take i) a) : rightB t s l = false := by
  cases hr : rightB t s l with
  | false => rfl
  | true =>
    obtain ⟨h1, h2⟩ := right_parts hr
    have h3 := h2 a ha
    have h4 : paid l a = paid (l.take (i + 1)) a + paid (l.drop (i + 1)) a := by rw [← paid_append, List.take_append_drop]
    have h5 := paid_nonneg (l := l.drop (i + 1)) (fun c hc => (okC_cost (h1 c (List.mem_of_mem_drop hc))).1) a
    rw [paid_take hi, pay, if_pos hin] at h4
    omega

/-- What is left of the costs. -/
def Left_ (t : Task) (g : Nat → Int) (rest : List Int) : Prop := rest.length = t.acts.length ∧ ∀ a, a < t.acts.length → rest.getD a 0 = costA t a - g a ∧ 0 ≤ rest.getD a 0
theorem costA_get {t : Task} {a : Nat} (ha : a < t.acts.length) : costA t a = t.acts[a].cost := by simp [costA, ha]
theorem Left_.zero {t : Task} (TK : TaskOK t) : Left_ t (fun _ => 0) (t.acts.map (·.cost)) := ⟨by simp, fun a ha => by
  have h1 := TK.cost _ (List.getElem_mem ha)
  rw [costA_get ha]
  simp only [List.getD_eq_getElem?_getD, List.getElem?_map, List.getElem?_eq_getElem ha, Option.map_some, Option.getD_some]
  omega⟩
theorem Left_.congr {t : Task} {g g' : Nat → Int} {rest : List Int} (h : Left_ t g rest) (hg : ∀ a, a < t.acts.length → g a = g' a) : Left_ t g' rest := ⟨h.1, fun a ha => by rw [← hg a ha]; exact h.2 a ha⟩
/-- Numbers in rising order are there once. -/
theorem rising_once {l : List Int} {n : Int} (h : risingB l n = true) {j : Nat} (hj : j < l.length) : hasB (l.take j) l[j] = false := by
  cases hb : hasB (l.take j) l[j] with
  | false => rfl
  | true =>
    obtain ⟨y, hy, hyx⟩ := List.any_eq_true.1 hb
    obtain ⟨i, hi, rfl⟩ := List.getElem_of_mem hy
    have hi' : i < j := by simp at hi; omega
    have := rising_lt h j i hj hi'
    simp at hyx
    omega
theorem hasB_take {l : List Int} {j : Nat} (hj : j < l.length) (x : Int) : hasB (l.take (j + 1)) x = (hasB (l.take j) x || l[j] == x) := by
  rw [List.take_add_one, List.getElem?_eq_getElem hj, Option.toList_some, hasB_snoc]
theorem Left_.step {t : Task} {g : Nat → Int} {rest : List Int} {acts : List Int} {c : Int} {j k : Nat} (hr : risingB acts t.acts.length = true) (hj : j < acts.length) (hk : acts[j] = (k : Int)) (h : Left_ t (fun a => g a + if hasB (acts.take j) (a : Int) = true then c else 0) rest) (hle : ¬ c > rest.getD k 0) :
    k < t.acts.length ∧ rest.getD k 0 = costA t k - g k ∧ Left_ t (fun a => g a + if hasB (acts.take (j + 1)) (a : Int) = true then c else 0) (rest.set k (rest.getD k 0 - c)) := by
  have hin := rising_in hr _ (List.getElem_mem hj)
  have hkl : k < t.acts.length := by omega
  have ho := rising_once hr hj
  rw [hk] at ho
  have h0 := (h.2 k hkl).1
  simp only [ho, Bool.false_eq_true, if_false] at h0
  refine ⟨hkl, by omega, by simp [h.1], fun a ha => ?_⟩
  rw [getD_setI (by rw [h.1]; exact hkl)]
  simp only [hasB_take hj, hk]
  by_cases hka : k = a
  · subst hka
    simp only [if_true, ho, beq_self_eq_true, Bool.or_true]
    omega
  · have h1 := h.2 a ha
    have h2 : ((k : Int) == (a : Int)) = false := by simp; omega
    simp only [hka, if_false, h2, Bool.or_false]
    exact h1

/-! ### The cuts that are found -/
def cX (c : CutD) : CutM := ⟨false, c.acts, c.cost⟩
theorem selI_rising (n m : Nat) (hm : m ≤ n) (p : Nat → Bool) : risingB (selI m p) n = true := by
  have hlt : ∀ (m : Nat) (i j : Nat) (hj : j < (selI m p).length) (hi : i < j), (selI m p)[i]'(by omega) < (selI m p)[j] := by
    intro m
    induction m with
    | zero => intro i j hj _; simp [selI] at hj
    | succ m ih =>
      intro i j hj hi
      have hst := selI_step m p
      by_cases hp : p m = true
      · rw [if_pos hp] at hst
        have hlen : (selI (m + 1) p).length = (selI m p).length + 1 := by rw [hst]; simp
        have hget : ∀ k (hk : k < (selI (m + 1) p).length), (selI (m + 1) p)[k] = (selI m p ++ [(m : Int)])[k]'(by rw [← hst]; exact hk) := fun k hk => by simp only [hst]
        rw [hget i (by omega), hget j hj]
        rw [List.getElem_append, List.getElem_append]
        by_cases hj2 : j < (selI m p).length
        · rw [dif_pos (by omega), dif_pos hj2]; exact ih i j hj2 hi
        · rw [dif_pos (by omega), dif_neg hj2]
          have : (selI m p)[i]'(by omega) ∈ selI m p := List.getElem_mem _
          obtain ⟨k, hk, hk2, _⟩ := selI_mem this
          rw [hk]; simp; omega
      · rw [if_neg hp, List.append_nil] at hst
        have hget : ∀ k (hk : k < (selI (m + 1) p).length), (selI (m + 1) p)[k] = (selI m p)[k]'(by rw [← hst]; exact hk) := fun k hk => by simp only [hst]
        rw [hget i (by omega), hget j hj]
        exact ih i j (by rw [← hst]; exact hj) hi
  refine List.all_eq_true.2 fun i hi => ?_
  have hi := List.mem_range.1 hi
  obtain ⟨k, hk, hk2, _⟩ := selI_mem (List.getElem_mem hi)
  simp only [chkI, Bool.and_eq_true, Bool.or_eq_true, decide_eq_true_eq, beq_iff_eq, at0_eq hi]
  refine ⟨by omega, ?_⟩
  rcases Nat.eq_zero_or_pos i with h0 | h0
  · exact .inl h0
  · refine .inr ?_
    rw [at0_eq (show i - 1 < (selI m p).length by omega)]
    exact hlt m (i - 1) i hi (by omega)
theorem hasB_selI {n : Nat} {p : Nat → Bool} {a : Nat} : hasB (selI n p) (a : Int) = (decide (a < n) && p a) := by
  cases h : hasB (selI n p) (a : Int) with
  | true =>
    obtain ⟨y, hy, hyx⟩ := List.any_eq_true.1 h
    obtain ⟨k, rfl, hk, hp⟩ := selI_mem hy
    have : k = a := by simp at hyx; omega
    subst this
    simp [hk, hp]
  | false =>
    cases hp : p a with
    | false => simp
    | true =>
      by_cases ha : a < n
      · have h2 : hasB (selI n p) (a : Int) = true := List.any_eq_true.2 ⟨(a : Int), selI_mem' ha hp, beq_self_eq_true (a : Int)⟩
        rw [h] at h2; cases h2
      · simp [ha]

/-- Nobody reaches the goal without those that cross. -/
theorem cut_landmark {t : Task} {s : List Int} {rest : List Int} {b : List Bool} (hr : RestOK t rest) (hb : IsR t s (cntZ rest) b) (hg : setHas b t.goal = false) : allR t s (cntO (cutActs t rest b)) t.goal = false := by
  cases hall : allR t s (cntO (cutActs t rest b)) t.goal with
  | false => rfl
  | true =>
    have key : ∀ k, Rch t s (cntO (cutActs t rest b)) k → b.getD k false = true := by
      intro k h
      induction h with
      | ini k hk h => exact (hb.iff k).2 (.ini k hk h)
      | eff a x e hx he hcc hp hw ihp ihw =>
        have ha := (List.getElem?_eq_some_iff.1 hx).1
        have hpre : setHas b x.pre = true := List.all_eq_true.2 ihp
        have hwhn : setHas b e.when_ = true := List.all_eq_true.2 ihw
        by_cases h0 : rest.getD a 0 = 0
        · exact (hb.iff _).2 (.eff a x e hx he (by simp only [cntZ, h0]; rfl) (fun l hl => (hb.iff _).1 (ihp l hl)) fun l hl => (hb.iff _).1 (ihw l hl))
        · have hpos : rest.getD a 0 > 0 := by have := (rest_get hr a).1; omega
          have h2 : hitA t rest b a = false := by
            simp only [cntO, cutActs, hasB_selI, ha, decide_true, Bool.true_and, Bool.not_eq_true'] at hcc
            exact hcc
          rw [hitA, hx] at h2
          simp only [hpos, decide_true, hpre, Bool.true_and] at h2
          have h3 := List.any_eq_false.1 h2 e he
          simp only [hitE, hwhn, Bool.true_and, Bool.not_eq_true', Bool.not_eq_false] at h3
          exact h3
    have : setHas b t.goal = true := List.all_eq_true.2 fun x hx => key _ (allR_iff.1 hall x hx)
    rw [this] at hg; cases hg

theorem run_right {t : Task} {s : List Int} (hall : allR t s (cntO []) t.goal = true) : ∀ {rest : List Int} {L : List CutD}, CutRun t s rest L → RestOK t rest → ∀ L0 : List CutM, (∀ c ∈ L0, okC t s c = true) → Left_ t (paid L0) rest →
    rightB t s (L0 ++ L.map cX) = true ∧ allR t s (cntP t (L0 ++ L.map cX)) t.goal = true := by
  intro rest L h
  induction h with
  | stop rest b hb hg =>
    intro hR L0 h0 hl
    simp only [List.map_nil, List.append_nil]
    refine ⟨right_of h0 fun a ha => by have := hl.2 a ha; omega, ?_⟩
    rw [hb.all] at hg
    rw [← hg]
    refine allR_congr fun a x e hx he => ?_
    have ha := (List.getElem?_eq_some_iff.1 hx).1
    have := hl.2 a ha
    simp only [cntP, cntZ, this.1]
    cases h1 : (paid L0 a == costA t a) <;> cases h2 : (costA t a - paid L0 a == 0) <;> simp at h1 h2 ⊢ <;> omega
  | step rest b L hb hg h ih =>
    intro hR L0 h0 hl
    have hne := cut_some hR hb hg hall
    obtain ⟨hR2, _, hc0, hc1⟩ := cut_next hR hne
    have hok : okC t s (cX ⟨cutActs t rest b, costOf rest (cutActs t rest b)⟩) = true := by
      simp only [okC, cX, Bool.and_eq_true, Bool.not_eq_true']
      exact ⟨⟨⟨decide_eq_true (by omega), decide_eq_true hc1⟩, selI_rising _ _ (Nat.le_refl _) _⟩, cut_landmark hR hb hg⟩
    have := ih hR2 (L0 ++ [cX ⟨cutActs t rest b, costOf rest (cutActs t rest b)⟩]) (fun c hc => by
      rcases List.mem_append.1 hc with hc | hc
      · exact h0 c hc
      · simp at hc; rw [hc]; exact hok) ⟨hR2.1, fun a ha => by
        have h1 := hl.2 a ha
        have h2 := restOf_sel rest (costOf rest (cutActs t rest b)) (hitA t rest b) t.acts.length (by rw [hR.1]; exact Nat.le_refl _) a
        have h3 := rest_get hR2 a
        refine ⟨?_, h3.1⟩
        rw [show restOf rest (costOf rest (cutActs t rest b)) (cutActs t rest b) = restOf rest (costOf rest (cutActs t rest b)) (selI t.acts.length (hitA t rest b)) from rfl, h2, paid_append]
        simp only [paid, pay, cX, cutActs, hasB_selI, ha, decide_true, Bool.true_and]
        by_cases hh : hitA t rest b a = true
        · rw [if_pos ⟨trivial, hh⟩, if_pos hh, h1.1]; omega
        · rw [if_neg (fun hc => hh hc.2), if_neg hh, h1.1]; omega⟩
    simpa using this
end Go.Fw

/- A result's own rows, given away for ever. -/
namespace Go.Fw
open Go Go.Proofs

def allRO (RO : Nat → Prop) (β : K → Nat) (ro : Fr) (b : Nat) : Prop := RO b ∨ ∃ s o, look ro s = some o ∧ b = β (.cur s)

theorem get_out {out : List Fr} {ro : Fr} : ∀ {k : K} {o : Ob}, St.get ⟨out, []⟩ k = some o → St.get ⟨out, ro⟩ k = some o ∧ k.isFr = true
  | .cur s, o, h => by simp [St.get, look] at h
  | .fr i s, o, h => ⟨h, rfl⟩
  | .sub k i, o, h => by
    obtain ⟨eo, e, sz, rs, es, hg, hi, rfl⟩ := St.get_sub h
    obtain ⟨h1, h2⟩ := get_out (ro := ro) hg
    exact ⟨by simp only [St.get, h1, hi], h2⟩

theorem WR.close {w0 w : World} {β0 β : K → Nat} {RO0 RO : Nat → Prop} {out : List Fr} {ro : Fr} (h : WR (entP β0 RO0 w0) β RO ⟨out, ro⟩ w) : WR (entP β0 RO0 w0) β (allRO RO β ro) ⟨out, []⟩ w := by
  have hro : ∀ b, RO b → allRO RO β ro b := fun b hb => .inl hb
  have hcan : ∀ k o, St.get ⟨out, []⟩ k = some o → ¬ (entP β0 RO0 w0).can k := fun k o hk hc => by
    have := hc (get_out (ro := ro) hk).2
    cases this
  refine ⟨h.os, h.tape, h.output, h.size, h.keep, fun b hb => ?_, fun b hb => hro b (h.ro0 b hb), fun b hb => ?_, fun k o hk => (h.obj k o (get_out hk).1).ro hro, fun k o hk hc => (hcan k o hk hc).elim, fun k k' o o' hk hk' hc _ _ => (hcan k o hk hc).elim, fun k o hk hc => (hcan k o hk hc).elim, fun k o hk hc => hro _ (h.fzRO k o (get_out hk).1 hc), h.stay⟩
  · rcases hb with hb | ⟨s, o, hs, rfl⟩
    · exact h.roLt b hb
    · exact (h.obj (.cur s) o hs).lt
  · rcases hb with hb | ⟨s, o, hs, rfl⟩
    · exact h.roNew b hb
    · exact .inr ((h.objNew (.cur s) o hs (fun hc => by cases hc)).symm.imp id id)

/-- A value, its own row told as closed data. -/
inductive ClsV (ro : Fr) : LV → LV → Prop
  | same (x : T) : ClsV ro (.t x) (.t x)
  | row (s e sz off len : Nat) (es : List (List T)) (h : look ro s = some (.row e sz es)) (hl : off + len ≤ es.length) : ClsV ro (.osl (.cur s) sz off len) (.t (.sl false sz ((es.drop off).take len)))
  | nil (a b : Nat) : ClsV ro (.t (.sl true a [])) (.t (.sl true b []))
  | triple (a a' b b' c c' : LV) (h1 : ClsV ro a a') (h2 : ClsV ro b b') (h3 : ClsV ro c c') : ClsV ro (.tup [a, b, c]) (.tup [a', b', c'])
  | pair (a a' b b' : LV) (h1 : ClsV ro a a') (h2 : ClsV ro b b') : ClsV ro (.tup [a, b]) (.tup [a', b'])
  | agg (xs ys : List LV) (hl : xs.length = ys.length) (h : ∀ (i : Nat) (x y : LV), xs[i]? = some x → ys[i]? = some y → ClsV ro x y) : ClsV ro (.agg xs) (.agg ys)
  | un (x y : T) (h : y.un = x.un) : ClsV ro (.t x) (.t y)
  | trans (a b c : LV) (h1 : ClsV ro a b) (h2 : ClsV ro b c) : ClsV ro a c

theorem ClsV.vl' {w0 w : World} {β0 β : K → Nat} {RO0 RO : Nat → Prop} {out : List Fr} {ro : Fr} (h : WR (entP β0 RO0 w0) β RO ⟨out, ro⟩ w) {x y : LV} (hc : ClsV ro x y) : ∀ {v : Value}, VL β (allRO RO β ro) w x v → VL β (allRO RO β ro) w y v := by
  induction hc with
  | same x => intro v hv; exact hv
  | row s e sz off len es hs hl =>
    intro v hv
    have hk : St.get ⟨out, ro⟩ (.cur s) = some (.row e sz es) := hs
    exact .t _ _ (snap (fun _ h => h) (.inr ⟨s, _, hs, rfl⟩) ((h.obj (.cur s) _ hk).ro fun b hb => .inl hb) hv hl)
  | nil a b => intro v hv; exact nil_sz _ _ _ _ hv
  | triple a a' b b' c c' _ _ _ ih1 ih2 ih3 =>
    intro v hv
    cases hv with
    | tup _ vs hl hvs =>
    refine .tup _ vs (by simpa using hl) fun i x u hx hu => ?_
    match i with
    | 0 => simp at hx; subst hx; exact ih1 (hvs 0 a u rfl hu)
    | 1 => simp at hx; subst hx; exact ih2 (hvs 1 b u rfl hu)
    | 2 => simp at hx; subst hx; exact ih3 (hvs 2 c u rfl hu)
    | i + 3 => simp at hx
  | pair a a' b b' _ _ ih1 ih2 =>
    intro v hv
    cases hv with
    | tup _ vs hl hvs =>
    refine .tup _ vs (by simpa using hl) fun i x u hx hu => ?_
    match i with
    | 0 => simp at hx; subst hx; exact ih1 (hvs 0 a u rfl hu)
    | 1 => simp at hx; subst hx; exact ih2 (hvs 1 b u rfl hu)
    | i + 2 => simp at hx
  | agg xs ys hl h ih =>
    intro v hv
    cases hv with
    | agg _ vs hl' hvs h1 =>
    refine .agg _ vs (by omega) (fun i y u hy hu => ?_) h1
    have hi : i < xs.length := by rw [hl]; exact (List.getElem?_eq_some_iff.1 hy).1
    exact ih i _ y (List.getElem?_eq_getElem hi) hy (hvs i _ u (List.getElem?_eq_getElem hi) hu)
  | un x y h =>
    intro v hv
    cases hv with
    | t _ _ hv => exact .t _ _ (hv.un _ h)
  | trans _ _ _ _ _ ih1 ih2 => intro v hv; exact ih2 (ih1 hv)
theorem ClsV.vl {w0 w : World} {β0 β : K → Nat} {RO0 RO : Nat → Prop} {out : List Fr} {ro : Fr} (h : WR (entP β0 RO0 w0) β RO ⟨out, ro⟩ w) {x y : LV} (hc : ClsV ro x y) {v : Value} (hv : VL β RO w x v) : VL β (allRO RO β ro) w y v :=
  hc.vl' h (hv.ro fun _ hb => .inl hb)

theorem SpecP.close {P : Program} {f : Nat} {args : List LV} {out : List Fr} {Post Post' : LV → Fr → Prop} (h : SpecP P f args out Post) (hp : ∀ r ro, Post r ro → ∃ r', ClsV ro r r' ∧ Post' r' []) : SpecP P f args out Post' :=
  ⟨h.fn, fun β RO w vals hw hv => (h.calls β RO w vals hw hv).mono fun e w' ⟨v, r, ro, out', β', RO', he, h1, h2, h3⟩ => by
    obtain ⟨r', hc, hp'⟩ := hp r ro h1
    exact ⟨v, r', [], out', β', _, he, hp', h2.close, hc.vl h2 h3⟩⟩

/-- What was gathered, told as closed data. -/
theorem acc_cls {s e sz : Nat} {es : List (List T)} {ro : Fr} (h : ∀ x r, es = x :: r → look ro s = some (.row e sz es)) : ClsV ro (accV s sz es) (.t (.sl es.isEmpty sz es)) := by
  cases es with
  | nil => exact .nil 0 sz
  | cons x r =>
    have := ClsV.row (ro := ro) s e sz 0 (x :: r).length (x :: r) (h x r rfl) (by simp)
    rw [List.drop_zero, List.take_of_length_le (Nat.le_refl _)] at this
    exact this

end Go.Fw

/- What the program's functions do, part 30: cuts told as closed data; their actions and costs. -/
namespace Go.Fw
open Go Go.Proofs
set_option maxRecDepth 10000

abbrev LV.cuts (nl : Bool) (l : List CutM) : LV := .t (.sl nl 2 (l.map tCutX))
def cutsV (L : List CutD) : LV := match L with
  | [] => .t (.sl true 0 [])
  | x :: r => .t (.sl false 2 ((x :: r).map tCut))
theorem tCut_cX (L : List CutD) : L.map tCut = (L.map cX).map tCutX := by rw [List.map_map]; rfl

theorem f24c_spec (t : Task) (n1 : Bool) (s : List Int) (out : List Fr) :
    SpecP Try.prog 24 [.task t, .ints n1 s] out fun r ro => ((fineI t s ≠ 0 ∧ r = .tup [.t (.sl true 0 []), .int (fineI t s)]) ∨
      (fineI t s = 0 ∧ allR t s (cntO []) t.goal = false ∧ r = .tup [.t (.sl true 0 []), .int 4]) ∨
      (fineI t s = 0 ∧ allR t s (cntO []) t.goal = true ∧ ∃ L, CutRun t s (t.acts.map (·.cost)) L ∧ r = .tup [cutsV L, .int 0])) ∧ ro = [] :=
  (f24_spec t n1 s out).close fun r ro h => by
    rcases h with ⟨h0, rfl, rfl⟩ | ⟨h0, h1, rfl, rfl⟩ | ⟨h0, h1, L, hL, rfl, rfl⟩
    · exact ⟨_, .pair _ _ _ _ (.same _) (.same _), .inl ⟨h0, rfl⟩, rfl⟩
    · exact ⟨_, .pair _ _ _ _ (.same _) (.same _), .inr (.inl ⟨h0, h1, rfl⟩), rfl⟩
    · cases L with
      | nil => exact ⟨_, .pair _ _ _ _ (.same _) (.same _), .inr (.inr ⟨h0, h1, [], hL, rfl⟩), rfl⟩
      | cons x r =>
        refine ⟨_, .pair _ _ _ _ (.row 960 54 2 0 _ ((x :: r).map tCut) rfl (by simp)) (.same _), .inr (.inr ⟨h0, h1, x :: r, hL, ?_⟩), rfl⟩
        show LV.tup [.t (.sl false 2 ((((x :: r).map tCut).drop 0).take ((x :: r).map tCut).length)), _] = _
        rw [← take_all]; rfl

def tRow (c : CutM) : List T := [.sl c.nil 1 (c.acts.map tI)]
def tCost (c : CutM) : List T := [.v (.int .i64 c.cost)]
def kp70 : Kp := [(4, ([4, 5, 8, 9, 10], [144, 184]))]
theorem f70_spec (nl : Bool) (l : List CutM) (hl : l.length ≤ 1000000000) (out : List Fr) : SpecP Try.prog 70 [.cuts nl l] out fun r ro =>
    r = .tup [accV 144 1 (l.map tRow), accV 184 1 (l.map tCost)] ∧ ro = accO 144 23 1 (l.map tRow) ++ accO 184 3 1 (l.map tCost) := by
  refine spec_body cx_ok kp70 [] (fn := Try.f70) (by kernel_rfl) rfl (by kernel_rfl) rfl (by unfold FnOK; kernel_rfl) fun hok => ?_
  refine LoopW.mk (Nat × List CutM) (fun p => p.1 ≤ l.length ∧ p.2 = l.take p.1) (fun p => [(4, accV 144 1 (p.2.map tRow)), (5, accV 184 1 (p.2.map tCost)), (8, .cuts nl l), (9, .int (l.map tCutX).length), (10, .int p.1)])
    (fun p => ⟨out, accO 144 23 1 (p.2.map tRow) ++ accO 184 3 1 (p.2.map tCost)⟩) (fun p => l.length - p.1) (0, []) ⟨Nat.zero_le _, rfl⟩ ⟨rfl, rfl⟩ ?_
  rintro ⟨i, acc⟩ ⟨hi0, hacc⟩
  simp only at hi0 hacc
  have hst : ∀ hi : i < l.length, l.take (i + 1) = acc ++ [l[i]] := fun hi => by rw [List.take_add_one, List.getElem?_eq_getElem hi, hacc]; rfl
  cases acc
  case' nil =>
    refine And.intro (fun h1 => ?_) fun h1 => ?_
    · have hi : i < l.length := lt_of_dec h1
      refine And.intro (by omega) (Exists.intro _ (And.intro (get_map hi) ?_))
      refine And.intro (Nat.le_of_ble_eq_true rfl) (And.intro (Nat.le_of_ble_eq_true rfl) (And.intro (Nat.le_of_ble_eq_true rfl) ?_))
      refine And.intro (Nat.le_of_ble_eq_true rfl) (And.intro (Nat.le_of_ble_eq_true rfl) (And.intro (Nat.le_of_ble_eq_true rfl) ?_))
      refine And.intro (by omega) (And.intro (by omega) ?_)
      exact Exists.intro (i + 1, [l[i]]) (And.intro (by show l.length - (i + 1) < l.length - i; omega) (And.intro ⟨hi, (hst hi).symm⟩ (And.intro rfl rfl)))
  case' cons x r =>
    refine And.intro (fun h1 => ?_) fun h1 => ?_
    · have hi : i < l.length := lt_of_dec h1
      have hln : (x :: r).length ≤ i := by rw [hacc]; simp; omega
      have hln1 : ((tRow x :: r.map tRow) ++ [tRow l[i]]).length ≤ i + 1 := by simp at hln ⊢; omega
      have hln2 : ((tCost x :: r.map tCost) ++ [tCost l[i]]).length ≤ i + 1 := by simp at hln ⊢; omega
      have e1 : (r ++ [l[i]]).map tRow = r.map tRow ++ [tRow l[i]] := by simp
      have e2 : (r ++ [l[i]]).map tCost = r.map tCost ++ [tCost l[i]] := by simp
      refine And.intro (by omega) (Exists.intro _ (And.intro (get_map hi) ?_))
      refine And.intro (Nat.le_of_ble_eq_true rfl) (And.intro rfl (And.intro (Nat.le_trans (Nat.mul_le_mul_right _ hln1) (by show (i + 1) * 24 ≤ _; omega)) (And.intro (Nat.le_trans hln1 (by omega)) ?_)))
      refine And.intro (Nat.le_of_ble_eq_true rfl) (And.intro rfl (And.intro (Nat.le_trans (Nat.mul_le_mul_right _ hln2) (by show (i + 1) * 8 ≤ _; omega)) (And.intro (Nat.le_trans hln2 (by omega)) ?_)))
      refine And.intro (by omega) (And.intro (by omega) ?_)
      refine Exists.intro (i + 1, x :: (r ++ [l[i]])) (And.intro (by show l.length - (i + 1) < l.length - i; omega) (And.intro ⟨hi, (hst hi).symm⟩ ?_))
      simp only [List.map_cons, e1, e2]
      exact And.intro rfl rfl
  all_goals
    have hi : i = l.length := by have := ge_of_dec h1; omega
    rw [hi, List.take_length] at hacc
    refine Exists.intro [144, 184] ⟨?_, ?_⟩
    · rw [← hacc]; rfl
    · rw [← hacc]; rfl

theorem f30_spec (nl : Bool) (l : List CutM) (hl : l.length ≤ 1000000000) (out : List Fr) : SpecP Try.prog 30 [.cuts nl l] out fun r ro => r = accV 57000315 1 (l.map tRow) ∧ ro = accO 57000315 23 1 (l.map tRow) := by
  refine spec_body cx_ok [] [] (fn := Try.f30) (by kernel_rfl) rfl (by kernel_rfl) rfl (by unfold FnOK; kernel_rfl) fun hok => ?_
  refine SpecP.mono (f70_spec nl l hl []) ?_
  rintro _ _ ⟨rfl, rfl⟩
  cases l
  · exact Exists.intro [57000315] ⟨rfl, rfl⟩
  · exact Exists.intro [57000315] ⟨rfl, rfl⟩
theorem f31_spec (nl : Bool) (l : List CutM) (hl : l.length ≤ 1000000000) (out : List Fr) : SpecP Try.prog 31 [.cuts nl l] out fun r ro => r = accV 57000355 1 (l.map tCost) ∧ ro = accO 57000355 3 1 (l.map tCost) := by
  refine spec_body cx_ok [] [] (fn := Try.f31) (by kernel_rfl) rfl (by kernel_rfl) rfl (by unfold FnOK; kernel_rfl) fun hok => ?_
  refine SpecP.mono (f70_spec nl l hl []) ?_
  rintro _ _ ⟨rfl, rfl⟩
  cases l
  · exact Exists.intro [57000355] ⟨rfl, rfl⟩
  · exact Exists.intro [57000355] ⟨rfl, rfl⟩

end Go.Fw

/- What the program's functions do, part 31: the reference's Cuts. -/
namespace Go.Fw
open Go Go.Proofs
set_option maxRecDepth 10000

def Sm (t : Task) (g : Nat → Int) (sums : List Int) : Prop := sums.length = t.acts.length ∧ ∀ a, a < t.acts.length → sums.getD a 0 = g a ∧ 0 ≤ g a ∧ g a ≤ costA t a
theorem Sm.step {t : Task} {g : Nat → Int} {sums : List Int} {acts : List Int} {c : Int} {j k : Nat} (hr : risingB acts t.acts.length = true) (hj : j < acts.length) (hk : acts[j] = (k : Int)) (hc : 1 ≤ c) (h : Sm t (fun a => g a + if hasB (acts.take j) (a : Int) = true then c else 0) sums) :
    k < t.acts.length ∧ sums.getD k 0 = g k ∧ 0 ≤ g k ∧ g k ≤ costA t k ∧ (¬ sums.getD k 0 + c > costA t k → Sm t (fun a => g a + if hasB (acts.take (j + 1)) (a : Int) = true then c else 0) (sums.set k (sums.getD k 0 + c))) := by
  have hin := rising_in hr _ (List.getElem_mem hj)
  have hkl : k < t.acts.length := by omega
  have ho := rising_once hr hj
  rw [hk] at ho
  have h0 := h.2 k hkl
  simp only [ho, Bool.false_eq_true, if_false] at h0
  refine ⟨hkl, by omega, by omega, by omega, fun hle => ⟨by simp [h.1], fun a ha => ?_⟩⟩
  rw [getD_setI (by rw [h.1]; exact hkl)]
  simp only [hasB_take hj, hk]
  by_cases hka : k = a
  · subst hka
    simp only [if_true, ho, beq_self_eq_true, Bool.or_true]
    omega
  · have h1 := h.2 a ha
    have h2 : ((k : Int) == (a : Int)) = false := by simp; omega
    simp only [hka, if_false, h2, Bool.or_false]
    exact h1

def od29 : Od := [(11, [(0, .pure), (1, .pure), (2, .pure), (3, .pure), (4, .pure), (5, .pure), (6, .pure), (7, .pure), (8, .pure), (9, .pure), (10, .syn)]), (12, [(0, .pure), (1, .pure), (2, .pure), (3, .pure), (4, .pure), (5, .pure), (6, .pure), (7, .pure), (8, .pure), (9, .pure), (10, .pure)]), (20, [(0, .pure), (1, .pure), (2, .pure), (3, .pure), (4, .pure), (5, .pure), (6, .pure), (7, .pure), (8, .pure), (9, .pure), (10, .pure), (11, .pure), (12, .pure), (13, .pure), (14, .syn)]), (22, [(0, .pure), (1, .pure), (2, .pure), (4, .pure), (5, .pure), (3, .eff), (6, .eff), (7, .pure), (8, .pure)])]
def kp29 : Kp := [(3, ([1, 3, 4, 10, 23, 24, 25], [32, 176])), (9, ([1, 3, 4, 10, 11, 23, 24, 25, 59, 60, 61], [32, 176])), (18, ([1, 4, 10, 17, 94, 95], [32, 176, 728]))]
theorem f29_spec (t : Task) (n1 n2 n3 : Bool) (s : List Int) (l : List CutM) (ht : isB t = true) (hs : risingB s t.facts.length = true) (out : List Fr) :
    SpecP Try.prog 29 [.task t, .ints n1 s, .t (.sl n2 1 (l.map tRow)), .t (.sl n3 1 (l.map tCost))] out fun r ro => r = .tup [.bool (rightB t s l), .bool (rightB t s l && allR t s (cntP t l) t.goal)] ∧ ro = [] := by
  refine spec_body cx_ok kp29 od29 (fn := Try.f29) (by kernel_rfl) rfl (by kernel_rfl) rfl (by unfold FnOK; kernel_rfl) fun hok => ?_
  have hmx : (l.length : Int) ≤ 9223372036854775807 := le_max (f := tRow) hok.2.2.1.1
  have TK := task_ok ht
  have hN := TK.facts
  have hA := TK.acts
  have hal : (t.acts.map tAct).length = t.acts.length := List.length_map ..
  have no : rightB t s l = false → ∀ {r : LV} {ro : Fr}, r = .tup [.bool false, .bool false] → ro = [] → r = .tup [.bool (rightB t s l), .bool (rightB t s l && allR t s (cntP t l) t.goal)] ∧ ro = [] := fun h r ro hr hro => by rw [h]; exact ⟨hr, hro⟩
  refine And.intro rfl (And.intro (by omega) (And.intro (by show ((t.acts.map tAct).length : Int) * (8 : Nat) ≤ _; omega) (And.intro (by omega) ?_)))
  refine LoopW.mk (Nat × List Int) (fun p => p.1 ≤ l.length ∧ (∀ c ∈ l.take p.1, okC t s c = true) ∧ Sm t (paid (l.take p.1)) p.2)
    (fun p => [(1, .ints n1 s), (3, .t (.sl n3 1 (l.map tCost))), (4, .ptr (.cur 32) 0), (10, .osl (.cur 176) 1 0 (t.acts.map tAct).length), (23, .t (.sl n2 1 (l.map tRow))), (24, .int (l.map tRow).length), (25, .int p.1)])
    (fun p => ⟨out, [(32, .box (cellsTask t)), (176, .row 3 1 (p.2.map tI))]⟩) (fun p => l.length - p.1) (0, List.replicate (t.acts.map tAct).length 0)
    ⟨Nat.zero_le _, fun c hc => by simp at hc, by simp, fun a ha => by
      have h1 := TK.cost _ (List.getElem_mem ha)
      rw [costA_get ha]
      refine ⟨?_, Int.le_refl _, h1.1⟩
      rw [List.getD_eq_getElem?_getD, List.getElem?_replicate, if_pos (by omega)]; rfl⟩ ⟨rfl, ?_⟩ ?_
  · show (⟨out, [(32, .box (cellsTask t)), (176, .row 3 1 (List.replicate (t.acts.map tAct).length (tI 0)))]⟩ : St) = _
    rw [List.map_replicate]
  rintro ⟨i, sums⟩ ⟨hi0, hoks, hS⟩
  simp only at hi0 hoks hS
  refine And.intro (fun h1 => ?_) fun h1 => ?_
  · have hi : i < l.length := lt_of_dec h1
    have bad : okC t s l[i] = false → rightB t s l = false := fun h => not_right hi h
    refine And.intro (by omega) (Exists.intro _ (And.intro (get_map hi) ?_))
    refine SpecP.mono (f33_spec t l[i].nil l[i].acts ht []) ?_
    rintro _ _ (⟨hr, rfl, rfl⟩ | ⟨hr, rfl, rfl⟩)
    · refine And.intro (fun h => Bool.noConfusion h) fun _ => ?_
      exact Exists.intro [] (no (bad (by simp [okC, hr])) rfl rfl)
    refine And.intro (fun _ => ?_) fun h => Bool.noConfusion h
    refine And.intro (by omega) (Exists.intro _ (And.intro (get_map hi) ?_))
    refine And.intro (fun h2 => ?_) fun h2 => ?_
    · exact Exists.intro [] (no (bad (by have := of_decide_eq_true h2; simp [okC]; omega)) rfl rfl)
    have hc1 : 1 ≤ l[i].cost := by have := of_decide_eq_false h2; omega
    refine And.intro (by omega) (Exists.intro _ (And.intro (get_map hi) ?_))
    refine And.intro (fun h3 => ?_) fun h3 => ?_
    · exact Exists.intro [] (no (bad (by have := of_decide_eq_true h3; simp [okC]; omega)) rfl rfl)
    have hc2 : l[i].cost ≤ 100000 := by have := of_decide_eq_false h3; omega
    refine Exists.intro _ (And.intro (lend (bitsL_length _ _)) (And.intro (lend2 (bitsL_length _ _)) ?_))
    refine SpecP.mono (f64_spec t n1 false s (bitsL t.acts.length l[i].acts) ht hs (bitsL_length _ _) _) ?_
    rintro _ _ ⟨rfl, rfl⟩
    refine And.intro trivial (And.intro trivial ?_)
    rw [allR_congr (cntO_bits TK hr)]
    refine And.intro (fun h4 => ?_) fun h4 => ?_
    rotate_left
    · exact Exists.intro [] (no (bad (by simp only [okC, h4, Bool.and_false])) rfl rfl)
    have hokc : okC t s l[i] = true := by simp only [okC, hr, h4, Bool.and_true, Bool.and_eq_true, decide_eq_true_eq]; exact ⟨hc1, hc2⟩
    have hjm := le_max (f := tI) (l := l[i].acts) (by
      have hh := okEs_iff.1 hok.2.2.1.2 (tRow l[i]) (List.mem_map_of_mem (List.getElem_mem hi)) (.sl l[i].nil 1 (l[i].acts.map tI)) (by simp [tRow])
      exact hh.1)
    refine LoopW.mk (Nat × List Int) (fun p => p.1 ≤ l[i].acts.length ∧ Sm t (fun a => paid (l.take i) a + if hasB (l[i].acts.take p.1) (a : Int) = true then l[i].cost else 0) p.2)
      (fun p => [(1, .ints n1 s), (3, .t (.sl n3 1 (l.map tCost))), (4, .ptr (.cur 32) 0), (10, .osl (.cur 176) 1 0 (t.acts.map tAct).length), (11, .int i), (23, .t (.sl n2 1 (l.map tRow))), (24, .int (l.map tRow).length), (25, .int i), (59, .ints l[i].nil l[i].acts), (60, .int (l[i].acts.map tI).length), (61, .int p.1)])
      (fun p => ⟨out, [(32, .box (cellsTask t)), (176, .row 3 1 (p.2.map tI))]⟩) (fun p => l[i].acts.length - p.1) (0, sums) ⟨Nat.zero_le _, hS.1, fun a ha => by have := hS.2 a ha; simpa [hasB] using this⟩ ⟨rfl, rfl⟩ ?_
    clear hS
    rintro ⟨j, sums⟩ ⟨hj0, hS⟩
    simp only at hj0 hS
    refine And.intro (fun k1 => ?_) fun k1 => ?_
    · have hj : j < l[i].acts.length := lt_of_dec k1
      have hin := rising_in hr _ (List.getElem_mem hj)
      obtain ⟨k, hk⟩ : ∃ k : Nat, l[i].acts[j] = (k : Int) := ⟨l[i].acts[j].toNat, by omega⟩
      obtain ⟨hkl, hg1, hg2, hg3, hstep⟩ := hS.step hr hj hk hc1
      have hmax : costA t k ≤ 100000 := by rw [costA_get hkl]; exact (TK.cost _ (List.getElem_mem hkl)).2
      have hks : k < sums.length := by rw [hS.1]; exact hkl
      have hkm : (k : Int) < (t.acts.map tAct).length := by omega
      refine And.intro (by omega) (Exists.intro (tI k) (And.intro (by rw [← hk]; exact get_map hj) ?_))
      refine And.intro (by omega) (And.intro hkm (Exists.intro (tI (sums.getD k 0)) (And.intro (getI hks) ?_)))
      refine And.intro (by omega) (Exists.intro _ (And.intro (get_map hi) ?_))
      refine And.intro (by omega) (And.intro (by omega) ?_)
      refine And.intro (by omega) (And.intro hkm (Exists.intro (tI (sums.getD k 0)) (And.intro (getI hks) (And.intro (Nat.le_refl 1) ?_))))
      have hset : (sums.map tI).set (0 + ((k : Int)).toNat) (tI (sums.getD k 0 + l[i].cost)) = (sums.set k (sums.getD k 0 + l[i].cost)).map tI := by rw [Nat.zero_add, Int.toNat_natCast, map_setI]
      have hnew : ((sums.map tI).set (0 + ((k : Int)).toNat) (tI (sums.getD k 0 + l[i].cost)))[0 + ((k : Int)).toNat]? = some (tI (sums.getD k 0 + l[i].cost)) := by
        rw [List.getElem?_set_self (by simp; omega)]
      refine And.intro (by omega) (And.intro hkm (Exists.intro (tI (sums.getD k 0 + l[i].cost)) (And.intro hnew ?_)))
      refine And.intro (by omega) (Exists.intro _ (And.intro (get_map hkl) ?_))
      refine And.intro (fun k2 => ?_) fun k2 => ?_
      · have k2 : sums.getD k 0 + l[i].cost > t.acts[k].cost := of_decide_eq_true k2
        refine Exists.intro [] (no (over_right hi hkl (List.any_eq_true.2 ⟨_, List.getElem_mem hj, by rw [hk]; simp⟩) ?_) rfl rfl)
        rw [costA_get hkl]; omega
      · have k2 : ¬ sums.getD k 0 + l[i].cost > t.acts[k].cost := of_decide_eq_false k2
        refine And.intro (by omega) (And.intro (by omega) ?_)
        refine Exists.intro (j + 1, sums.set k (sums.getD k 0 + l[i].cost)) (And.intro (by show l[i].acts.length - (j + 1) < l[i].acts.length - j; omega) (And.intro ⟨hj, hstep (by rw [costA_get hkl]; exact k2)⟩ (And.intro rfl ?_)))
        rw [← hset]; rfl
    · have hj : l[i].acts.length ≤ j := ge_of_dec k1
      rw [List.take_of_length_le hj] at hS
      refine And.intro (by omega) (And.intro (by omega) ?_)
      refine Exists.intro (i + 1, sums) (And.intro (by show l.length - (i + 1) < l.length - i; omega) (And.intro ⟨hi, fun c hc => ?_, hS.1, fun a ha => ?_⟩ (And.intro rfl rfl)))
      · have hc : c ∈ l.take (i + 1) := hc
        rw [List.take_add_one, List.getElem?_eq_getElem hi] at hc
        rcases List.mem_append.1 hc with hc | hc
        · exact hoks c hc
        · simp at hc; rw [hc]; exact hokc
      · show sums.getD a 0 = paid (l.take (i + 1)) a ∧ 0 ≤ paid (l.take (i + 1)) a ∧ paid (l.take (i + 1)) a ≤ costA t a
        rw [paid_take hi, pay]
        exact hS.2 a ha
  have hi : l.length ≤ i := ge_of_dec h1
  rw [List.take_of_length_le hi] at hoks hS
  have hright : rightB t s l = true := right_of hoks fun a ha => (hS.2 a ha).2.2 |> fun h => by have := hS.2 a ha; omega
  refine And.intro rfl (And.intro (by omega) (And.intro (by show ((t.acts.map tAct).length : Int) * (1 : Nat) ≤ _; omega) (And.intro (by omega) ?_)))
  refine LoopW.mk (Nat × List Bool) (fun p => p.1 ≤ t.acts.length ∧ p.2.length = t.acts.length ∧ ∀ a, a < p.1 → p.2.getD a false = decide (paid l a < costA t a))
    (fun p => [(1, .ints n1 s), (4, .ptr (.cur 32) 0), (10, .osl (.cur 176) 1 0 (t.acts.map tAct).length), (17, .osl (.cur 728) 1 0 (t.acts.map tAct).length), (94, .int (t.acts.map tAct).length), (95, .int p.1)])
    (fun p => ⟨out, [(32, .box (cellsTask t)), (176, .row 3 1 (sums.map tI)), (728, .row 4 1 (p.2.map tB))]⟩) (fun p => t.acts.length - p.1) (0, List.replicate (t.acts.map tAct).length false) ⟨Nat.zero_le _, by simp, fun a ha => by simp at ha⟩ ⟨rfl, ?_⟩ ?_
  · show (⟨out, [(32, .box (cellsTask t)), (176, .row 3 1 (sums.map tI)), (728, .row 4 1 (List.replicate (t.acts.map tAct).length (tB false)))]⟩ : St) = _
    rw [List.map_replicate]
  rintro ⟨a, less⟩ ⟨ha0, hll, hless⟩
  simp only at ha0 hll hless
  refine And.intro (fun k1 => ?_) fun k1 => ?_
  · have ha : a < t.acts.length := lt_of_dec k1
    have ham : (a : Int) < (t.acts.map tAct).length := by omega
    have hget : (less.map tB)[0 + ((a : Int)).toNat]? = some (tB (less[a]'(by omega))) := by rw [Nat.zero_add]; exact get_map (by omega)
    refine And.intro (by omega) (And.intro ham (Exists.intro (tI (sums.getD a 0)) (And.intro (getI (by rw [hS.1]; exact ha)) ?_)))
    refine And.intro (by omega) (Exists.intro _ (And.intro (get_map ha) ?_))
    refine And.intro (fun hv => ?_) fun hv => ?_
    · refine And.intro (by omega) (And.intro ham (Exists.intro _ (And.intro hget (And.intro (Nat.le_refl 1) ?_))))
      refine And.intro (by omega) (And.intro (by omega) ?_)
      refine Exists.intro (a + 1, less.set a true) (And.intro (by show t.acts.length - (a + 1) < t.acts.length - a; omega) (And.intro ⟨ha, by simp [hll], fun a' ha' => ?_⟩ (And.intro rfl ?_)))
      · have ha' : a' < a + 1 := ha'
        show (less.set a true).getD a' false = _
        rw [getD_set (by omega)]
        by_cases h : a = a'
        · subst h
          rw [if_pos rfl, ← hv, (hS.2 a ha).1, costA_get ha]
        · rw [if_neg h]; exact hless a' (by omega)
      · show (⟨out, [(32, .box (cellsTask t)), (176, .row 3 1 (sums.map tI)), (728, .row 4 1 ((less.map tB).set (0 + ((a : Int)).toNat) (tB true)))]⟩ : St) = _
        rw [Nat.zero_add, Int.toNat_natCast, map_set']
    · refine And.intro (by omega) (And.intro ham (Exists.intro _ (And.intro hget (And.intro (Nat.le_refl 1) ?_))))
      refine And.intro (by omega) (And.intro (by omega) ?_)
      refine Exists.intro (a + 1, less.set a false) (And.intro (by show t.acts.length - (a + 1) < t.acts.length - a; omega) (And.intro ⟨ha, by simp [hll], fun a' ha' => ?_⟩ (And.intro rfl ?_)))
      · have ha' : a' < a + 1 := ha'
        show (less.set a false).getD a' false = _
        rw [getD_set (by omega)]
        by_cases h : a = a'
        · subst h
          rw [if_pos rfl, ← hv, (hS.2 a ha).1, costA_get ha]
        · rw [if_neg h]; exact hless a' (by omega)
      · show (⟨out, [(32, .box (cellsTask t)), (176, .row 3 1 (sums.map tI)), (728, .row 4 1 ((less.map tB).set (0 + ((a : Int)).toNat) (tB false)))]⟩ : St) = _
        rw [Nat.zero_add, Int.toNat_natCast, map_set']
  have ha : a = t.acts.length := by have := ge_of_dec k1; omega
  subst ha
  refine Exists.intro (less.map tB) (And.intro (lend (by rw [hll, hal])) (And.intro (lend2 (by rw [hll, hal])) ?_))
  refine SpecP.mono (f27_spec t n1 false s less (-1) ht hs hll _) ?_
  rintro _ _ ⟨b, hb, rfl, rfl⟩
  refine And.intro trivial (And.intro ⟨flat_bools, trivial⟩ (And.intro ⟨rfl, rfl, rfl⟩ ?_))
  refine Exists.intro (b.map tB) (And.intro (lend rfl) (And.intro (lend2 rfl) ?_))
  refine SpecP.mono (f28_spec false t.gn b t.goal (fun x hx => (TK.goal x hx).inB TK.facts hb.len) _) ?_
  rintro _ _ ⟨rfl, rfl⟩
  refine And.intro trivial (And.intro trivial (And.intro ⟨rfl, rfl, rfl⟩ ?_))
  have heq : setHas b t.goal = allR t s (cntP t l) t.goal := by
    rw [hb.all]
    refine allR_congr fun a x e hx he => ?_
    have h1 := code_nonneg (TK.lit x (List.mem_of_getElem? hx) e he)
    have h2 : codeI e.lit ≠ -1 := by omega
    have ha := (List.getElem?_eq_some_iff.1 hx).1
    have h3 := hS.2 a ha
    simp only [cntR, cntP, hless a ha, h2, ne_eq, not_false_eq_true, decide_true, Bool.and_true]
    by_cases h4 : paid l a < costA t a
    · have : (paid l a == costA t a) = false := by simp; omega
      simp [h4, this]
    · have : (paid l a == costA t a) = true := by simp; omega
      simp [h4, this]
  rw [heq]
  refine And.intro (fun k3 => ?_) fun k3 => ?_
  · exact Exists.intro [] ⟨by rw [hright, k3]; rfl, rfl⟩
  · exact Exists.intro [] ⟨by rw [hright, k3]; rfl, rfl⟩

end Go.Fw

/- What the program's functions do, part 32: Check (printed by wip/gen32.py). -/
namespace Go.Fw
open Go Go.Proofs
set_option maxRecDepth 10000

theorem f72_spec (a : Nat) (x : Lit) (rest : List Int) (m : Nat) (ha : a < rest.length) (hm : rest.length = m) (fr fr1 : Fr) (out : List Fr) (h1 : look fr1 80 = some (.box [.osl (.cur 272) 1 0 m])) (h2 : look fr1 272 = some (.row 3 1 (rest.map tI))) :
    SpecP Try.prog 72 [.int a, .lit x, .ptr (.fr 1 80) 0] (fr :: fr1 :: out) fun r ro => r = .bool (cntZ rest a x) ∧ ro = [] := by
  refine spec_body cx_ok [] [] (fn := Try.f72) (by kernel_rfl) rfl (by kernel_rfl) rfl (by unfold FnOK; kernel_rfl) fun hok => ?_
  refine Exists.intro (.box [.osl (.fr 1 272) 1 0 m]) (And.intro (by simp only [St.get, List.getElem?_cons_succ, List.getElem?_cons_zero, h1]; rfl) ?_)
  refine And.intro (by omega) (And.intro (by omega) ?_)
  refine Exists.intro (.row 3 1 (rest.map tI)) (And.intro (by simp only [St.get, List.getElem?_cons_succ, List.getElem?_cons_zero, h2]; rfl) (Exists.intro _ (And.intro (getI ha) ?_)))
  refine And.intro (fun h => ?_) fun h => ?_
  · exact Exists.intro [] (ret_bool h rfl)
  · exact Exists.intro [] (ret_bool h rfl)

noncomputable def checkV (t : Task) (s : List Int) (l : List CutM) : LV := if fineI t s = 0 then .tup [.bool (rightB t s l), .bool (rightB t s l && allR t s (cntP t l) t.goal), .int 0] else .tup [.bool false, .bool false, .int (fineI t s)]
def od32 : Od := [(18, [(0, .pure), (1, .pure), (2, .pure), (3, .pure), (4, .pure), (5, .pure), (6, .pure)]), (20, [(0, .pure), (1, .pure), (2, .pure), (3, .pure), (4, .pure), (5, .pure), (6, .pure), (7, .pure), (8, .syn)]), (22, [(0, .pure), (1, .pure), (2, .pure), (3, .pure), (5, .pure), (6, .pure), (4, .eff), (7, .eff)]), (25, [(0, .pure), (1, .pure), (2, .pure), (4, .pure), (5, .pure), (3, .eff), (6, .eff), (7, .pure), (8, .pure), (9, .pure)])]
def kp32 : Kp := [(6, ([1, 2, 3, 10, 24, 25, 26], [24, 80, 272])), (11, ([1, 3, 10, 36, 37, 38], [24, 80, 272])), (16, ([1, 3, 10, 14, 36, 37, 38, 60, 61, 62], [24, 80, 272, 112]))]
set_option maxHeartbeats 4000000 in
theorem f32_spec (t : Task) (n1 nl : Bool) (s : List Int) (l : List CutM) (out : List Fr) : SpecP Try.prog 32 [.task t, .ints n1 s, .cuts nl l] out fun r ro => r = checkV t s l ∧ ro = [] := by
  refine spec_body cx_ok kp32 od32 (fn := Try.f32) (by kernel_rfl) rfl (by kernel_rfl) rfl (by unfold FnOK; kernel_rfl) fun hok => ?_
  have hmx : (l.length : Int) ≤ 9223372036854775807 := le_max (f := tCutX) hok.2.2.1.1
  refine SpecP.mono (f54_spec t n1 s []) ?_
  rintro _ _ ⟨rfl, rfl⟩
  refine And.intro (fun h0 => ?_) fun h0 => ?_
  · have h0 : fineI t s ≠ 0 := by simpa using h0
    exact Exists.intro [] ⟨by rw [checkV, if_neg h0]; rfl, rfl⟩
  have h0 : fineI t s = 0 := by simpa using h0
  obtain ⟨ht, hs⟩ := hts_of h0
  have TK := task_ok ht
  have hN := TK.facts
  have hA := TK.acts
  have hal : (t.acts.map tAct).length = t.acts.length := List.length_map ..
  have no : rightB t s l = false → ∀ {r : LV} {ro : Fr}, r = .tup [.bool false, .bool false, .int 0] → ro = [] → r = checkV t s l ∧ ro = [] := fun h r ro hr hro => by rw [checkV, if_pos h0, h]; exact ⟨hr, hro⟩
  refine LoopW.mk (Nat × List Int) (fun p => p.1 ≤ t.acts.length ∧ p.2 = (t.acts.take p.1).map (·.cost)) (fun p => [(1, .ints n1 s), (2, .cuts nl l), (3, .ptr (.cur 24) 0), (10, .ptr (.cur 80) 0), (24, .t (.sl t.an 4 (t.acts.map tAct))), (25, .int (t.acts.map tAct).length), (26, .int p.1)])
    (fun p => ⟨out, (24, .box (cellsTask t)) :: (80, .box [accV 272 1 (p.2.map tI)]) :: accO 272 3 1 (p.2.map tI)⟩) (fun p => t.acts.length - p.1) (0, []) ⟨Nat.zero_le _, rfl⟩ ⟨rfl, rfl⟩ ?_
  rintro ⟨i, acc⟩ ⟨hi0, hacc⟩
  simp only at hi0 hacc
  cases acc with
  | nil =>
    refine And.intro (fun h1 => ?_) fun h1 => ?_
    · have hi : i < t.acts.length := lt_of_dec h1
      have hst : (t.acts.take (i + 1)).map (·.cost) = ([]) ++ [t.acts[i].cost] := by rw [List.take_add_one, List.getElem?_eq_getElem hi, List.map_append, ← hacc]; rfl
      refine And.intro (by omega) (Exists.intro _ (And.intro (get_map hi) ?_))
      refine And.intro (Nat.le_of_ble_eq_true rfl) (And.intro (Nat.le_of_ble_eq_true rfl) (And.intro (Nat.le_of_ble_eq_true rfl) ?_))
      refine And.intro (by omega) (And.intro (by omega) ?_)
      exact Exists.intro (i + 1, [t.acts[i].cost]) (And.intro (by show t.acts.length - (i + 1) < t.acts.length - i; omega) (And.intro ⟨hi, hst.symm⟩ (And.intro rfl rfl)))
    have hi : i = t.acts.length := by have := ge_of_dec h1; omega
    rw [hi, List.take_length] at hacc
    have hm : t.acts.length = ([] : List Int).length := by rw [hacc, List.length_map]
    clear h1 hi hi0
    refine LoopW.mk (Nat × List Int) (fun p => p.1 ≤ l.length ∧ (∀ c ∈ l.take p.1, okC t s c = true) ∧ Left_ t (paid (l.take p.1)) p.2)
      (fun p => [(1, .ints n1 s), (3, .ptr (.cur 24) 0), (10, .ptr (.cur 80) 0), (36, .cuts nl l), (37, .int (l.map tCutX).length), (38, .int p.1)])
      (fun p => ⟨out, (24, .box (cellsTask t)) :: (80, .box [.t (.sl true 0 [])]) :: []⟩) (fun p => l.length - p.1) (0, []) ⟨Nat.zero_le _, fun c hc => by simp at hc, by rw [hacc]; exact Left_.zero TK⟩ ⟨rfl, rfl⟩ ?_
    rintro ⟨i, rest⟩ ⟨hi0, hoks, hL⟩
    simp only at hi0 hoks hL
    refine And.intro (fun h1 => ?_) fun h1 => ?_
    · have hi : i < l.length := lt_of_dec h1
      have bad : okC t s l[i] = false → rightB t s l = false := fun h => not_right hi h
      refine And.intro (by omega) (Exists.intro _ (And.intro (get_map hi) ?_))
      refine And.intro (fun h2 => ?_) fun h2 => ?_
      · exact Exists.intro [] (no (bad (by have := of_decide_eq_true h2; simp [okC]; omega)) rfl rfl)
      have hc1 : 1 ≤ l[i].cost := by have := of_decide_eq_false h2; omega
      refine And.intro (fun h3 => ?_) fun h3 => ?_
      · exact Exists.intro [] (no (bad (by have := of_decide_eq_true h3; simp [okC]; omega)) rfl rfl)
      have hc2 : l[i].cost ≤ 100000 := by have := of_decide_eq_false h3; omega
      refine SpecP.mono (f71_spec l[i].nil l[i].acts (t.acts.map tAct).length []) ?_
      rintro _ _ ⟨rfl, rfl⟩
      rw [hal]
      refine And.intro (fun hr => ?_) fun hr => ?_
      rotate_left
      · exact Exists.intro [] (no (bad (by simp [okC, hr])) rfl rfl)
      have hjm := le_max (f := tI) (l := l[i].acts) (by
        have hh := okEs_iff.1 hok.2.2.1.2 (tCutX l[i]) (List.mem_map_of_mem (List.getElem_mem hi)) (.sl l[i].nil 1 (l[i].acts.map tI)) (by simp [tCutX])
        exact hh.1)
      refine LoopW.mk (Nat × List Int) (fun p => p.1 ≤ l[i].acts.length ∧ Left_ t (fun a => paid (l.take i) a + if hasB (l[i].acts.take p.1) (a : Int) = true then l[i].cost else 0) p.2)
        (fun p => [(1, .ints n1 s), (3, .ptr (.cur 24) 0), (10, .ptr (.cur 80) 0), (14, .ptr (.cur 112) 0), (36, .cuts nl l), (37, .int (l.map tCutX).length), (38, .int i), (60, .ints l[i].nil l[i].acts), (61, .int (l[i].acts.map tI).length), (62, .int p.1)])
        (fun p => ⟨out, (24, .box (cellsTask t)) :: (80, .box [.t (.sl true 0 [])]) :: (112, .box [.t (.sl l[i].nil 1 (l[i].acts.map tI)), .t (.v (.int .i64 l[i].cost))]) :: []⟩) (fun p => l[i].acts.length - p.1) (0, rest) ⟨Nat.zero_le _, hL.congr fun a _ => by simp [hasB]⟩ ⟨rfl, rfl⟩ ?_
      clear hL
      rintro ⟨j, rest⟩ ⟨hj0, hL⟩
      simp only at hj0 hL
      refine And.intro (fun k1 => ?_) fun k1 => ?_
      · have hj : j < l[i].acts.length := lt_of_dec k1
        have hin := rising_in hr _ (List.getElem_mem hj)
        simp only [List.length_nil] at hm
        omega
      · have hj : l[i].acts.length ≤ j := ge_of_dec k1
        rw [List.take_of_length_le hj] at hL
        refine SpecP.mono (f60_spec t n1 l[i].nil s l[i].acts ht hs []) ?_
        rintro _ _ ⟨b, hb, rfl, rfl⟩
        refine And.intro ⟨rfl, rfl, rfl⟩ ?_
        refine Exists.intro (b.map tB) (And.intro (lend rfl) (And.intro (lend2 rfl) ?_))
        refine SpecP.mono (f57_spec false t.gn b t.goal (fun x hx => (TK.goal x hx).inB hN hb.len) _) ?_
        rintro _ _ ⟨rfl, rfl⟩
        refine And.intro trivial (And.intro trivial (And.intro ⟨rfl, rfl, rfl⟩ ?_))
        rw [hb.all]
        refine And.intro (fun h4 => ?_) fun h4 => ?_
        · exact Exists.intro [] (no (bad (by simp [okC, h4])) rfl rfl)
        have hokc : okC t s l[i] = true := by simp only [okC, hr, h4, Bool.not_false, Bool.and_true, Bool.and_eq_true, decide_eq_true_eq]; exact ⟨hc1, hc2⟩
        refine And.intro (by omega) (And.intro (by omega) ?_)
        refine Exists.intro (i + 1, rest) (And.intro (by show l.length - (i + 1) < l.length - i; omega) (And.intro ⟨hi, fun c hc => ?_, hL.congr fun a _ => ?_⟩ (And.intro rfl rfl)))
        · have hc : c ∈ l.take (i + 1) := hc
          rw [List.take_add_one, List.getElem?_eq_getElem hi] at hc
          rcases List.mem_append.1 hc with hc | hc
          · exact hoks c hc
          · simp at hc; rw [hc]; exact hokc
        · show _ = paid (l.take (i + 1)) a
          rw [paid_take hi, pay]
    have hi : l.length ≤ i := ge_of_dec h1
    rw [List.take_of_length_le hi] at hoks hL
    have hright : rightB t s l = true := right_of hoks fun a ha => by have := hL.2 a ha; omega
    refine SpecP.mono (f58_spec t n1 s 72 80 (cntZ rest) ht hs _ fun fr a x ha _ => by simp only [List.length_nil] at hm; omega) ?_
    rintro _ _ ⟨b, hb, rfl, rfl⟩
    refine And.intro trivial (And.intro ⟨flat_bools, trivial⟩ (And.intro ⟨rfl, rfl, rfl⟩ ?_))
    refine Exists.intro (b.map tB) (And.intro (lend rfl) (And.intro (lend2 rfl) ?_))
    refine SpecP.mono (f57_spec false t.gn b t.goal (fun x hx => (TK.goal x hx).inB hN hb.len) _) ?_
    rintro _ _ ⟨rfl, rfl⟩
    refine And.intro trivial (And.intro trivial (And.intro ⟨rfl, rfl, rfl⟩ ?_))
    have heq : setHas b t.goal = allR t s (cntP t l) t.goal := by
      rw [hb.all]
      refine allR_congr fun a x e hx he => ?_
      have ha := (List.getElem?_eq_some_iff.1 hx).1
      have h3 := hL.2 a ha
      simp only [cntZ, cntP, h3.1]
      cases h4 : (paid l a == costA t a) <;> cases h5 : (costA t a - paid l a == 0) <;> simp at h4 h5 ⊢ <;> omega
    rw [heq]
    refine And.intro (fun k3 => ?_) fun k3 => ?_
    · exact Exists.intro [] ⟨by rw [checkV, if_pos h0, hright, k3]; rfl, rfl⟩
    · exact Exists.intro [] ⟨by rw [checkV, if_pos h0, hright, k3]; rfl, rfl⟩
  | cons x r =>
    refine And.intro (fun h1 => ?_) fun h1 => ?_
    · have hi : i < t.acts.length := lt_of_dec h1
      have hst : (t.acts.take (i + 1)).map (·.cost) = (x :: r) ++ [t.acts[i].cost] := by rw [List.take_add_one, List.getElem?_eq_getElem hi, List.map_append, ← hacc]; rfl
      refine And.intro (by omega) (Exists.intro _ (And.intro (get_map hi) ?_))
      have hln : (x :: r).length = i := by rw [hacc]; simp; omega
      have hln2 : ((tI x :: r.map tI) ++ [tI t.acts[i].cost]).length ≤ i + 1 := by simp at hln ⊢; omega
      refine And.intro (Nat.le_of_ble_eq_true rfl) (And.intro rfl (And.intro (by show ((tI x :: r.map tI) ++ [tI t.acts[i].cost]).length * 8 ≤ _; omega) (And.intro (by show ((tI x :: r.map tI) ++ [tI t.acts[i].cost]).length ≤ _; omega) ?_)))
      refine And.intro (by omega) (And.intro (by omega) ?_)
      have e : (r ++ [t.acts[i].cost]).map tI = r.map tI ++ [tI t.acts[i].cost] := by simp
      refine Exists.intro (i + 1, x :: (r ++ [t.acts[i].cost])) (And.intro (by show t.acts.length - (i + 1) < t.acts.length - i; omega) (And.intro ⟨hi, hst.symm⟩ ?_))
      simp only [List.map_cons, e]
      exact And.intro rfl rfl
    have hi : i = t.acts.length := by have := ge_of_dec h1; omega
    rw [hi, List.take_length] at hacc
    have hm : t.acts.length = (x :: r : List Int).length := by rw [hacc, List.length_map]
    clear h1 hi hi0
    refine LoopW.mk (Nat × List Int) (fun p => p.1 ≤ l.length ∧ (∀ c ∈ l.take p.1, okC t s c = true) ∧ Left_ t (paid (l.take p.1)) p.2)
      (fun p => [(1, .ints n1 s), (3, .ptr (.cur 24) 0), (10, .ptr (.cur 80) 0), (36, .cuts nl l), (37, .int (l.map tCutX).length), (38, .int p.1)])
      (fun p => ⟨out, (24, .box (cellsTask t)) :: (80, .box [.osl (.cur 272) 1 0 ((x :: r).map tI).length]) :: (272, .row 3 1 (p.2.map tI)) :: []⟩) (fun p => l.length - p.1) (0, x :: r) ⟨Nat.zero_le _, fun c hc => by simp at hc, by rw [hacc]; exact Left_.zero TK⟩ ⟨rfl, rfl⟩ ?_
    rintro ⟨i, rest⟩ ⟨hi0, hoks, hL⟩
    simp only at hi0 hoks hL
    refine And.intro (fun h1 => ?_) fun h1 => ?_
    · have hi : i < l.length := lt_of_dec h1
      have bad : okC t s l[i] = false → rightB t s l = false := fun h => not_right hi h
      refine And.intro (by omega) (Exists.intro _ (And.intro (get_map hi) ?_))
      refine And.intro (fun h2 => ?_) fun h2 => ?_
      · exact Exists.intro [] (no (bad (by have := of_decide_eq_true h2; simp [okC]; omega)) rfl rfl)
      have hc1 : 1 ≤ l[i].cost := by have := of_decide_eq_false h2; omega
      refine And.intro (fun h3 => ?_) fun h3 => ?_
      · exact Exists.intro [] (no (bad (by have := of_decide_eq_true h3; simp [okC]; omega)) rfl rfl)
      have hc2 : l[i].cost ≤ 100000 := by have := of_decide_eq_false h3; omega
      refine SpecP.mono (f71_spec l[i].nil l[i].acts (t.acts.map tAct).length []) ?_
      rintro _ _ ⟨rfl, rfl⟩
      rw [hal]
      refine And.intro (fun hr => ?_) fun hr => ?_
      rotate_left
      · exact Exists.intro [] (no (bad (by simp [okC, hr])) rfl rfl)
      have hjm := le_max (f := tI) (l := l[i].acts) (by
        have hh := okEs_iff.1 hok.2.2.1.2 (tCutX l[i]) (List.mem_map_of_mem (List.getElem_mem hi)) (.sl l[i].nil 1 (l[i].acts.map tI)) (by simp [tCutX])
        exact hh.1)
      refine LoopW.mk (Nat × List Int) (fun p => p.1 ≤ l[i].acts.length ∧ Left_ t (fun a => paid (l.take i) a + if hasB (l[i].acts.take p.1) (a : Int) = true then l[i].cost else 0) p.2)
        (fun p => [(1, .ints n1 s), (3, .ptr (.cur 24) 0), (10, .ptr (.cur 80) 0), (14, .ptr (.cur 112) 0), (36, .cuts nl l), (37, .int (l.map tCutX).length), (38, .int i), (60, .ints l[i].nil l[i].acts), (61, .int (l[i].acts.map tI).length), (62, .int p.1)])
        (fun p => ⟨out, (24, .box (cellsTask t)) :: (80, .box [.osl (.cur 272) 1 0 ((x :: r).map tI).length]) :: (272, .row 3 1 (p.2.map tI)) :: (112, .box [.t (.sl l[i].nil 1 (l[i].acts.map tI)), .t (.v (.int .i64 l[i].cost))]) :: []⟩) (fun p => l[i].acts.length - p.1) (0, rest) ⟨Nat.zero_le _, hL.congr fun a _ => by simp [hasB]⟩ ⟨rfl, rfl⟩ ?_
      clear hL
      rintro ⟨j, rest⟩ ⟨hj0, hL⟩
      simp only at hj0 hL
      refine And.intro (fun k1 => ?_) fun k1 => ?_
      · have hj : j < l[i].acts.length := lt_of_dec k1
        have hin := rising_in hr _ (List.getElem_mem hj)
        obtain ⟨k, hk⟩ : ∃ k : Nat, l[i].acts[j] = (k : Int) := ⟨l[i].acts[j].toNat, by omega⟩
        have hkl0 : k < t.acts.length := by omega
        have hks : k < rest.length := by rw [hL.1]; exact hkl0
        have hkm : (k : Int) < ((x :: r).map tI).length := by rw [List.length_map, ← hm]; omega
        have hb0 := (hL.2 k hkl0).2
        have ho := rising_once hr hj
        rw [hk] at ho
        have hb1 := (hL.2 k hkl0).1
        simp only [ho, Bool.false_eq_true, if_false] at hb1
        have hmax : costA t k ≤ 100000 := by rw [costA_get hkl0]; exact (TK.cost _ (List.getElem_mem hkl0)).2
        have hpn : 0 ≤ paid (l.take i) k := paid_nonneg (fun c hc => (okC_cost (hoks c hc)).1) k
        refine And.intro (by omega) (Exists.intro (tI k) (And.intro (by rw [← hk]; exact get_map hj) ?_))
        refine And.intro (by omega) (And.intro hkm (Exists.intro (tI (rest.getD k 0)) (And.intro (getI hks) ?_)))
        refine And.intro (fun k2 => ?_) fun k2 => ?_
        · have k2 : l[i].cost > rest.getD k 0 := of_decide_eq_true k2
          refine Exists.intro [] (no (over_right hi hkl0 (List.any_eq_true.2 ⟨_, List.getElem_mem hj, by rw [hk]; simp⟩) ?_) rfl rfl)
          omega
        have k2 : ¬ l[i].cost > rest.getD k 0 := of_decide_eq_false k2
        obtain ⟨_, _, hstep⟩ := hL.step hr hj hk k2
        refine And.intro (by omega) (And.intro hkm (Exists.intro (tI (rest.getD k 0)) (And.intro (getI hks) ?_)))
        refine And.intro (by omega) (And.intro (by omega) ?_)
        refine And.intro (by omega) (And.intro hkm (Exists.intro (tI (rest.getD k 0)) (And.intro (getI hks) (And.intro (Nat.le_refl 1) ?_))))
        have hset : (rest.map tI).set (0 + ((k : Int)).toNat) (tI (rest.getD k 0 - l[i].cost)) = (rest.set k (rest.getD k 0 - l[i].cost)).map tI := by rw [Nat.zero_add, Int.toNat_natCast, map_setI]
        refine And.intro (by omega) (And.intro (by omega) ?_)
        refine Exists.intro (j + 1, rest.set k (rest.getD k 0 - l[i].cost)) (And.intro (by show l[i].acts.length - (j + 1) < l[i].acts.length - j; omega) (And.intro ⟨hj, hstep⟩ (And.intro rfl ?_)))
        rw [← hset]; rfl
      · have hj : l[i].acts.length ≤ j := ge_of_dec k1
        rw [List.take_of_length_le hj] at hL
        refine SpecP.mono (f60_spec t n1 l[i].nil s l[i].acts ht hs []) ?_
        rintro _ _ ⟨b, hb, rfl, rfl⟩
        refine And.intro ⟨rfl, rfl, rfl⟩ ?_
        refine Exists.intro (b.map tB) (And.intro (lend rfl) (And.intro (lend2 rfl) ?_))
        refine SpecP.mono (f57_spec false t.gn b t.goal (fun x hx => (TK.goal x hx).inB hN hb.len) _) ?_
        rintro _ _ ⟨rfl, rfl⟩
        refine And.intro trivial (And.intro trivial (And.intro ⟨rfl, rfl, rfl⟩ ?_))
        rw [hb.all]
        refine And.intro (fun h4 => ?_) fun h4 => ?_
        · exact Exists.intro [] (no (bad (by simp [okC, h4])) rfl rfl)
        have hokc : okC t s l[i] = true := by simp only [okC, hr, h4, Bool.not_false, Bool.and_true, Bool.and_eq_true, decide_eq_true_eq]; exact ⟨hc1, hc2⟩
        refine And.intro (by omega) (And.intro (by omega) ?_)
        refine Exists.intro (i + 1, rest) (And.intro (by show l.length - (i + 1) < l.length - i; omega) (And.intro ⟨hi, fun c hc => ?_, hL.congr fun a _ => ?_⟩ (And.intro rfl rfl)))
        · have hc : c ∈ l.take (i + 1) := hc
          rw [List.take_add_one, List.getElem?_eq_getElem hi] at hc
          rcases List.mem_append.1 hc with hc | hc
          · exact hoks c hc
          · simp at hc; rw [hc]; exact hokc
        · show _ = paid (l.take (i + 1)) a
          rw [paid_take hi, pay]
    have hi : l.length ≤ i := ge_of_dec h1
    rw [List.take_of_length_le hi] at hoks hL
    have hright : rightB t s l = true := right_of hoks fun a ha => by have := hL.2 a ha; omega
    refine SpecP.mono (f58_spec t n1 s 72 80 (cntZ rest) ht hs _ fun fr a x ha _ => f72_spec a x rest _ (by rw [hL.1]; exact ha) (by rw [hL.1, hm, List.length_map]) fr _ out rfl rfl) ?_
    rintro _ _ ⟨b, hb, rfl, rfl⟩
    refine And.intro trivial (And.intro ⟨flat_bools, trivial⟩ (And.intro ⟨rfl, rfl, rfl⟩ ?_))
    refine Exists.intro (b.map tB) (And.intro (lend rfl) (And.intro (lend2 rfl) ?_))
    refine SpecP.mono (f57_spec false t.gn b t.goal (fun x hx => (TK.goal x hx).inB hN hb.len) _) ?_
    rintro _ _ ⟨rfl, rfl⟩
    refine And.intro trivial (And.intro trivial (And.intro ⟨rfl, rfl, rfl⟩ ?_))
    have heq : setHas b t.goal = allR t s (cntP t l) t.goal := by
      rw [hb.all]
      refine allR_congr fun a x e hx he => ?_
      have ha := (List.getElem?_eq_some_iff.1 hx).1
      have h3 := hL.2 a ha
      simp only [cntZ, cntP, h3.1]
      cases h4 : (paid l a == costA t a) <;> cases h5 : (costA t a - paid l a == 0) <;> simp at h4 h5 ⊢ <;> omega
    rw [heq]
    refine And.intro (fun k3 => ?_) fun k3 => ?_
    · exact Exists.intro [] ⟨by rw [checkV, if_pos h0, hright, k3]; rfl, rfl⟩
    · exact Exists.intro [] ⟨by rw [checkV, if_pos h0, hright, k3]; rfl, rfl⟩

end Go.Fw

/- What the laws MarkCuts and MarkChecks do: they answer true. -/
namespace Go.Fw
open Go Go.Proofs
set_option maxRecDepth 10000

theorem run_len {t : Task} {s : List Int} (hall : allR t s (cntO []) t.goal = true) {rest : List Int} {L : List CutD} (h : CutRun t s rest L) : RestOK t rest → L.length ≤ rest.countP (fun x => decide (x > 0)) := by
  induction h with
  | stop rest b hb hg => intro _; exact Nat.zero_le _
  | step rest b L hb hg h ih =>
    intro hR
    obtain ⟨hR2, hlt, _⟩ := cut_next hR (cut_some hR hb hg hall)
    have := ih hR2
    simp only [List.length_cons]
    omega

def cutsX (l : List CutM) : LV := match l with
  | [] => .t (.sl true 0 [])
  | x :: r => .t (.sl false 2 ((x :: r).map tCutX))
theorem cutsV_X (L : List CutD) : cutsV L = cutsX (L.map cX) := by
  cases L with
  | nil => rfl
  | cons x r => show LV.t (.sl false 2 ((x :: r).map tCut)) = LV.t (.sl false 2 (((x :: r).map cX).map tCutX)); rw [tCut_cX]

theorem conv_34 {a b : LV} {m n : Nat} : ∀ (β : K → Nat) (RO : Nat → Prop) (w : World) (vals : List Value), Vals β RO w [a, b, .t (.sl true m []), .t (.sl true m [])] vals → Vals β RO w [a, b, .t (.sl true n []), .t (.sl true n [])] vals := fun β RO w vals hv =>
  ⟨hv.1, fun i z v hz hvz => by
    match i with
    | 0 => exact hv.2 0 z v hz hvz
    | 1 => exact hv.2 1 z v hz hvz
    | 2 => simp at hz; subst hz; exact nil_sz β RO w v (hv.2 2 _ v rfl hvz)
    | 3 => simp at hz; subst hz; exact nil_sz β RO w v (hv.2 3 _ v rfl hvz)
    | i + 4 => simp at hz⟩

theorem restOK0 {t : Task} (TK : TaskOK t) : RestOK t (t.acts.map (·.cost)) := ⟨by simp, fun x hx => by obtain ⟨y, hy, rfl⟩ := List.mem_map.1 hx; exact TK.cost y hy⟩
theorem cnt_none {t : Task} (TK : TaskOK t) : ∀ a x e, t.acts[a]? = some x → e ∈ x.effs → cntR (List.replicate t.acts.length false) (-1) a e.lit = cntO [] a e.lit := fun a x e hx he => by
  have h1 := code_nonneg (TK.lit x (List.mem_of_getElem? hx) e he)
  have h2 : codeI e.lit ≠ -1 := by omega
  have h3 : (List.replicate t.acts.length false).getD a false = false := by
    rw [List.getD_eq_getElem?_getD, List.getElem?_replicate]; split <;> rfl
  simp only [cntR, cntO, h3, h2, ne_eq, not_false_eq_true, decide_true, Bool.not_false, Bool.and_self, hasB, List.any_nil]

def od5 : Od := [(5, [(0, .pure), (1, .pure), (2, .pure), (3, .pure), (4, .pure), (5, .pure), (6, .pure), (7, .pure), (10, .pure), (11, .pure), (8, .eff), (9, .eff), (12, .eff), (13, .pure), (14, .pure)]), (9, [(0, .pure), (1, .pure), (2, .pure), (4, .pure), (3, .eff), (5, .eff), (6, .eff), (7, .pure), (8, .pure), (9, .pure), (10, .pure), (11, .pure)])]
theorem f5_spec (t : Task) (n1 : Bool) (s : List Int) (out : List Fr) : SpecP Try.prog 5 [.task t, .ints n1 s] out fun r ro => r = .bool true ∧ ro = [] := by
  refine spec_body cx_ok [] od5 (fn := Try.f5) (by kernel_rfl) rfl (by kernel_rfl) rfl (by unfold FnOK; kernel_rfl) fun hok => ?_
  refine SpecP.mono (f13_spec t 300 []) ?_
  rintro _ _ ⟨few, rfl, rfl⟩
  refine And.intro (fun h1 => ?_) fun h1 => ?_
  rotate_left
  · refine SpecP.mono (f14_spec []) ?_
    rintro _ _ ⟨rfl, rfl⟩
    refine And.intro (fun _ => ?_) fun h => Bool.noConfusion h
    exact Exists.intro [] (ret_bool rfl rfl)
  refine And.intro (fun h2 => ?_) fun h2 => ?_
  · refine SpecP.mono (f14_spec []) ?_
    rintro _ _ ⟨rfl, rfl⟩
    refine And.intro (fun _ => ?_) fun h => Bool.noConfusion h
    exact Exists.intro [] (ret_bool rfl rfl)
  refine SpecP.mono (f24c_spec t n1 s []) ?_
  rintro _ _ ⟨⟨h0, rfl⟩ | ⟨h0, hall, rfl⟩ | ⟨h0, hall, L, hL, e1⟩, rfl⟩
  · refine SpecP.mono (f17_spec t n1 s []) ?_
    rintro _ _ ⟨rfl, rfl⟩
    refine And.intro (fun h => absurd (by simpa using h) h0) fun _ => ?_
    refine And.intro (fun _ => ?_) fun h => absurd (by simpa using h) h0
    refine And.intro (fun _ => ?_) fun h => absurd h (by simp)
    refine And.intro (fun _ => ?_) fun h => absurd h (by decide)
    refine SpecP.mono (f14_spec []) ?_
    rintro _ _ ⟨rfl, rfl⟩
    refine And.intro (fun _ => ?_) fun h => Bool.noConfusion h
    exact Exists.intro [] (ret_bool rfl rfl)
  all_goals
    obtain ⟨ht, hs⟩ := hts_of h0
    have TK := task_ok ht
    have hA := TK.acts
    have hal : (t.acts.map tAct).length = t.acts.length := List.length_map ..
    have hrep : (List.replicate t.acts.length false).map tB = ((List.replicate (t.acts.map tAct).length (tB false)).drop 0).take (t.acts.map tAct).length := by
      rw [List.map_replicate, ← hal]
      have := take_all (l := List.replicate (t.acts.map tAct).length (tB false))
      rwa [List.length_replicate] at this
  · refine SpecP.mono (f17_spec t n1 s []) ?_
    rintro _ _ ⟨rfl, rfl⟩
    refine And.intro (fun _ => ?_) fun h => absurd h (by simp [h0])
    refine And.intro rfl (And.intro (by omega) (And.intro (by show ((t.acts.map tAct).length : Int) * (1 : Nat) ≤ _; omega) (And.intro (by omega) ?_)))
    refine Exists.intro _ (And.intro hrep (And.intro (by simp) ?_))
    refine SpecP.mono (f27_spec t n1 false s (List.replicate t.acts.length false) (-1) ht hs (by simp) _) ?_
    rintro _ _ ⟨b, hb, rfl, rfl⟩
    refine And.intro trivial (And.intro ⟨flat_bools, trivial⟩ (And.intro ⟨rfl, rfl, rfl⟩ ?_))
    refine Exists.intro (b.map tB) (And.intro (lend rfl) (And.intro (lend2 rfl) ?_))
    refine SpecP.mono (f28_spec false t.gn b t.goal (fun x hx => (TK.goal x hx).inB TK.facts hb.len) _) ?_
    rintro _ _ ⟨rfl, rfl⟩
    refine And.intro trivial (And.intro trivial (And.intro ⟨rfl, rfl, rfl⟩ ?_))
    rw [hb.all, allR_congr (cnt_none TK), hall]
    refine And.intro (fun h => Bool.noConfusion h) fun _ => ?_
    refine And.intro (fun _ => ?_) fun h => absurd h (by decide)
    refine And.intro (fun _ => ?_) fun h => absurd h (by decide)
    refine And.intro (fun _ => ?_) fun h => absurd h (by decide)
    refine SpecP.mono (f14_spec []) ?_
    rintro _ _ ⟨rfl, rfl⟩
    refine And.intro (fun _ => ?_) fun h => Bool.noConfusion h
    exact Exists.intro [] (ret_bool rfl rfl)
  have hrr := run_right hall hL (restOK0 TK) [] (fun c hc => by cases hc) (Left_.zero TK)
  have hln := run_len hall hL (restOK0 TK)
  have hcp := List.countP_le_length (p := fun x : Int => decide (x > 0)) (l := t.acts.map (·.cost))
  have hXl : (L.map cX).length ≤ 1000000000 := by rw [List.length_map] at hcp ⊢; omega
  rw [cutsV_X] at e1
  rw [List.nil_append] at hrr
  generalize L.map cX = X at e1 hrr hXl
  subst e1
  have m29 : ∀ n2 n3 out, SpecP Try.prog 29 [.task t, .ints n1 s, .t (.sl n2 1 (X.map tRow)), .t (.sl n3 1 (X.map tCost))] out fun r ro => r = .tup [.bool true, .bool true] ∧ ro = [] := fun n2 n3 out =>
    (f29_spec t n1 n2 n3 s X ht hs out).mono fun r ro h => by rw [hrr.1, hrr.2] at h; exact h
  have m32 : ∀ n2, SpecP Try.prog 32 [.task t, .ints n1 s, .cuts n2 X] [] fun r ro => r = .tup [.bool true, .bool true, .int 0] ∧ ro = [] := fun n2 =>
    (f32_spec t n1 n2 s X []).mono fun r ro h => by rw [checkV, if_pos h0, hrr.1, hrr.2] at h; exact h
  have m30 := f30_spec (l := X) (hl := hXl)
  have m31 := f31_spec (l := X) (hl := hXl)
  cases X
  all_goals
    refine SpecP.mono (f17_spec t n1 s []) ?_
    rintro _ _ ⟨rfl, rfl⟩
    refine And.intro (fun _ => ?_) fun h => absurd h (by simp [h0])
    refine And.intro rfl (And.intro (by omega) (And.intro (by show ((t.acts.map tAct).length : Int) * (1 : Nat) ≤ _; omega) (And.intro (by omega) ?_)))
    refine Exists.intro _ (And.intro hrep (And.intro (by simp) ?_))
    refine SpecP.mono (f27_spec t n1 false s (List.replicate t.acts.length false) (-1) ht hs (by simp) _) ?_
    rintro _ _ ⟨b, hb, rfl, rfl⟩
    refine And.intro trivial (And.intro ⟨flat_bools, trivial⟩ (And.intro ⟨rfl, rfl, rfl⟩ ?_))
    refine Exists.intro (b.map tB) (And.intro (lend rfl) (And.intro (lend2 rfl) ?_))
    refine SpecP.mono (f28_spec false t.gn b t.goal (fun x hx => (TK.goal x hx).inB TK.facts hb.len) _) ?_
    rintro _ _ ⟨rfl, rfl⟩
    refine And.intro trivial (And.intro trivial (And.intro ⟨rfl, rfl, rfl⟩ ?_))
    rw [hb.all, allR_congr (cnt_none TK), hall]
    refine And.intro (fun _ => ?_) fun h => Bool.noConfusion h
    refine And.intro (fun h => absurd h (by simp [h0])) fun _ => ?_
    first
      | refine SpecP.conv1 nil_sz (SpecP.mono (m30 true []) ?_)
        rintro _ _ ⟨rfl, rfl⟩
        refine And.intro ⟨rfl, rfl, rfl⟩ ?_
        refine SpecP.conv1 nil_sz (SpecP.mono (m31 true []) ?_)
        rintro _ _ ⟨rfl, rfl⟩
        refine And.intro ⟨rfl, rfl, rfl⟩ ?_
        refine SpecP.conv conv_34 (SpecP.mono (m29 true true []) ?_)
        rintro _ _ ⟨rfl, rfl⟩
        refine And.intro ⟨rfl, rfl, rfl⟩ ?_
      | refine SpecP.mono (m30 false []) ?_
        rintro _ _ ⟨rfl, rfl⟩
        refine And.intro ⟨rfl, rfl, rfl⟩ ?_
        refine SpecP.mono (m31 false []) ?_
        rintro _ _ ⟨rfl, rfl⟩
        refine And.intro ⟨rfl, rfl, rfl⟩ ?_
        refine Exists.intro _ (And.intro take_all (And.intro (by simp) ?_))
        refine Exists.intro _ (And.intro take_all (And.intro (by simp) ?_))
        refine SpecP.mono (m29 false false _) ?_
        rintro _ _ ⟨rfl, rfl⟩
        refine And.intro ⟨trivial, trivial, trivial⟩ (And.intro trivial (And.intro ⟨rfl, rfl, rfl⟩ ?_))
    refine And.intro (fun _ => ?_) fun h => Bool.noConfusion h
    refine And.intro (fun _ => ?_) fun h => Bool.noConfusion h
    first
      | refine SpecP.conv (conv_third nil_sz) (SpecP.mono (m32 true) ?_)
        rintro _ _ ⟨rfl, rfl⟩
      | refine SpecP.mono (m32 false) ?_
        rintro _ _ ⟨rfl, rfl⟩
    refine And.intro (fun _ => ?_) fun h => Bool.noConfusion h
    refine And.intro (fun _ => ?_) fun h => Bool.noConfusion h
    refine And.intro (fun _ => ?_) fun h => absurd h (by decide)
    refine And.intro (fun _ => ?_) fun h => absurd h (by decide)
    refine SpecP.mono (f14_spec []) ?_
    rintro _ _ ⟨rfl, rfl⟩
    refine And.intro (fun _ => ?_) fun h => Bool.noConfusion h
    exact Exists.intro [] (ret_bool rfl rfl)

end Go.Fw

/- What the law MarkChecks does: it answers true. -/
namespace Go.Fw
open Go Go.Proofs
set_option maxRecDepth 10000

def od6 : Od := [(13, [(0, .pure), (1, .pure), (2, .pure), (4, .pure), (3, .eff), (5, .eff), (6, .eff), (7, .pure), (8, .pure), (9, .pure), (10, .pure), (11, .pure)])]
def kp6 : Kp := [(4, ([1, 2, 3, 29, 30, 31], [24]))]
theorem f6_spec (t : Task) (n1 nl : Bool) (s : List Int) (l : List CutM) (out : List Fr) : SpecP Try.prog 6 [.task t, .ints n1 s, .cuts nl l] out fun r ro => r = .bool true ∧ ro = [] := by
  refine spec_body cx_ok kp6 od6 (fn := Try.f6) (by kernel_rfl) rfl (by kernel_rfl) rfl (by unfold FnOK; kernel_rfl) fun hok => ?_
  have hmx : (l.length : Int) ≤ 9223372036854775807 := le_max (f := tCutX) hok.2.2.1.1
  refine SpecP.mono (f13_spec t 300 []) ?_
  rintro _ _ ⟨few, rfl, rfl⟩
  refine And.intro (fun h1 => ?_) fun h1 => ?_
  rotate_left
  · refine SpecP.mono (f14_spec []) ?_
    rintro _ _ ⟨rfl, rfl⟩
    refine And.intro (fun _ => ?_) fun h => Bool.noConfusion h
    exact Exists.intro [] (ret_bool rfl rfl)
  refine And.intro (fun h2 => ?_) fun h2 => ?_
  · refine SpecP.mono (f14_spec []) ?_
    rintro _ _ ⟨rfl, rfl⟩
    refine And.intro (fun _ => ?_) fun h => Bool.noConfusion h
    exact Exists.intro [] (ret_bool rfl rfl)
  refine And.intro (fun h2 => ?_) fun h2 => ?_
  · refine SpecP.mono (f14_spec []) ?_
    rintro _ _ ⟨rfl, rfl⟩
    refine And.intro (fun _ => ?_) fun h => Bool.noConfusion h
    exact Exists.intro [] (ret_bool rfl rfl)
  have hl30 : l.length ≤ 1000000000 := by have := of_decide_eq_false h2; simp at this; omega
  refine LoopW.mk Nat (fun i => i ≤ l.length) (fun i => [(1, .ints n1 s), (2, .cuts nl l), (3, .ptr (.cur 24) 0), (29, .cuts nl l), (30, .int (l.map tCutX).length), (31, .int i)])
    (fun _ => ⟨out, [(24, .box (cellsTask t))]⟩) (fun i => l.length - i) 0 (Nat.zero_le _) ⟨rfl, rfl⟩ fun i hI => ?_
  refine And.intro (fun k1 => ?_) fun k1 => ?_
  · have hi := lt_of_dec k1
    refine And.intro (by omega) (Exists.intro _ (And.intro (get_map hi) ?_))
    refine And.intro (fun k2 => ?_) fun k2 => ?_
    · refine SpecP.mono (f14_spec []) ?_
      rintro _ _ ⟨rfl, rfl⟩
      refine And.intro (fun _ => ?_) fun h => Bool.noConfusion h
      exact Exists.intro [] (ret_bool rfl rfl)
    · refine And.intro (by omega) (And.intro (by omega) ?_)
      exact Exists.intro (i + 1) (And.intro (by show l.length - (i + 1) < l.length - i; omega) (And.intro hi (And.intro rfl rfl)))
  have m32 := f32_spec t n1 nl s l []
  by_cases h0 : fineI t s = 0
  rotate_left
  · rw [checkV, if_neg h0] at m32
    refine SpecP.mono m32 ?_
    rintro _ _ ⟨rfl, rfl⟩
    refine And.intro (fun h => Bool.noConfusion h) fun _ => ?_
    refine And.intro (fun h => Bool.noConfusion h) fun _ => ?_
    refine SpecP.mono (f17_spec t n1 s []) ?_
    rintro _ _ ⟨rfl, rfl⟩
    refine And.intro (fun _ => ?_) fun h => absurd (by simpa using h) h0
    refine And.intro (fun _ => ?_) fun h => absurd h (by simp)
    refine SpecP.mono (f14_spec []) ?_
    rintro _ _ ⟨rfl, rfl⟩
    refine And.intro (fun _ => ?_) fun h => Bool.noConfusion h
    exact Exists.intro [] (ret_bool rfl rfl)
  obtain ⟨ht, hs⟩ := hts_of h0
  rw [checkV, if_pos h0] at m32
  have m29 := fun n2 n3 => f29_spec t n1 n2 n3 s l ht hs
  have m30 := f30_spec nl l hl30
  have m31 := f31_spec nl l hl30
  generalize (rightB t s l && allR t s (cntP t l) t.goal) = g2 at m32 m29
  generalize rightB t s l = g1 at m32 m29
  cases g1
  all_goals
    cases g2
    all_goals
      cases l
      all_goals
        refine SpecP.mono m32 ?_
        rintro _ _ ⟨rfl, rfl⟩
        first
          | refine And.intro (fun _ => ?_) fun h => Bool.noConfusion (h : true = false)
          | refine And.intro (fun h => Bool.noConfusion (h : false = true)) fun _ => ?_
        first
          | refine And.intro (fun _ => ?_) fun h => Bool.noConfusion (h : true = false)
          | refine And.intro (fun h => Bool.noConfusion (h : false = true)) fun _ => ?_
        refine SpecP.mono (f17_spec t n1 s []) ?_
        rintro _ _ ⟨rfl, rfl⟩
        refine And.intro (fun h => absurd h (by simp [h0])) fun _ => ?_
        refine SpecP.mono (m30 []) ?_
        rintro _ _ ⟨rfl, rfl⟩
        refine And.intro ⟨rfl, rfl, rfl⟩ ?_
        refine SpecP.mono (m31 []) ?_
        rintro _ _ ⟨rfl, rfl⟩
        refine And.intro ⟨rfl, rfl, rfl⟩ ?_
        first
          | refine SpecP.conv conv_34 (SpecP.mono (m29 true true []) ?_)
            rintro _ _ ⟨rfl, rfl⟩
            refine And.intro ⟨rfl, rfl, rfl⟩ ?_
          | refine Exists.intro _ (And.intro take_all (And.intro (by simp) ?_))
            refine Exists.intro _ (And.intro take_all (And.intro (by simp) ?_))
            refine SpecP.mono (m29 false false _) ?_
            rintro _ _ ⟨rfl, rfl⟩
            refine And.intro ⟨trivial, trivial, trivial⟩ (And.intro trivial (And.intro ⟨rfl, rfl, rfl⟩ ?_))
        first
          | refine And.intro (fun _ => ?_) fun h => Bool.noConfusion (h : true = false)
          | refine And.intro (fun h => Bool.noConfusion (h : false = true)) fun _ => ?_
        first
          | refine And.intro (fun _ => ?_) fun h => Bool.noConfusion (h : true = false)
          | refine And.intro (fun h => Bool.noConfusion (h : false = true)) fun _ => ?_
        refine And.intro (fun _ => ?_) fun h => absurd h (by decide)
        refine And.intro (fun _ => ?_) fun h => absurd h (by decide)
        refine And.intro (fun _ => ?_) fun h => absurd h (by decide)
        refine SpecP.mono (f14_spec []) ?_
        rintro _ _ ⟨rfl, rfl⟩
        refine And.intro (fun _ => ?_) fun h => Bool.noConfusion h
        exact Exists.intro [] (ret_bool rfl rfl)

end Go.Fw

/- What the program's functions do, part 35: lists of actions; the state after an action. -/
namespace Go.Fw
open Go Go.Proofs
set_option maxRecDepth 10000

def planB (t : Task) (p : List Int) : Bool := decide (p.length ≤ 10000) && p.all fun x => decide (0 ≤ x) && decide (x < t.acts.length)
def kp44 : Kp := [(4, ([2, 10, 11, 12], [16]))]
theorem f44_spec (t : Task) (n2 : Bool) (p : List Int) (out : List Fr) : SpecP Try.prog 44 [.task t, .ints n2 p] out fun r ro => r = .bool (planB t p) ∧ ro = [] := by
  refine spec_body cx_ok kp44 [] (fn := Try.f44) (by kernel_rfl) rfl (by kernel_rfl) rfl (by unfold FnOK; kernel_rfl) fun hok => ?_
  refine And.intro (fun h1 => ?_) fun h1 => ?_
  · have h1 := of_decide_eq_true h1
    rw [List.length_map] at h1
    exact Exists.intro [] (ret_bool (by simp [planB]; omega) rfl)
  have h1 := of_decide_eq_false h1
  rw [List.length_map] at h1
  refine LoopW.mk Nat (fun i => i ≤ p.length ∧ (p.take i).all (fun x => decide (0 ≤ x) && decide (x < t.acts.length)) = true) (fun i => [(2, .ptr (.cur 16) 0), (10, .ints n2 p), (11, .int (p.map tI).length), (12, .int i)])
    (fun _ => ⟨out, [(16, .box (cellsTask t))]⟩) (fun i => p.length - i) 0 ⟨Nat.zero_le _, rfl⟩ ⟨rfl, rfl⟩ fun i hI => ?_
  refine And.intro (fun h2 => ?_) fun h2 => ?_
  · have hi := lt_of_dec h2
    have bad : (decide (0 ≤ p[i]) && decide (p[i] < t.acts.length)) = false → planB t p = false := fun h => by rw [planB, all_false hi h, Bool.and_false]
    refine And.intro (by omega) (Exists.intro _ (And.intro (get_map hi) ?_))
    refine And.intro (fun h3 => ?_) fun h3 => ?_
    · have h3 := of_decide_eq_true h3
      exact Exists.intro [] (ret_bool (bad (by simp; omega)) rfl)
    have h3 := of_decide_eq_false h3
    refine And.intro (fun h4 => ?_) fun h4 => ?_
    · have h4 := of_decide_eq_true h4
      rw [List.length_map] at h4
      exact Exists.intro [] (ret_bool (bad (by simp; omega)) rfl)
    have h4 := of_decide_eq_false h4
    rw [List.length_map] at h4
    refine And.intro (by omega) (And.intro (by omega) ?_)
    exact Exists.intro (i + 1) (And.intro (by show p.length - (i + 1) < p.length - i; omega) (And.intro ⟨hi, all_step hi hI.2 (by simp; omega)⟩ (And.intro rfl rfl)))
  · have := all_end (ge_of_dec h2) hI.2
    exact Exists.intro [] (ret_bool (by rw [planB, this]; simp; omega) rfl)

def negStep (s : List Int) (b : List Bool) (e : Eff) : List Bool := if (e.lit.neg && holdsB s e.when_) = true then b.set e.lit.fact.toNat false else b
def posStep (s : List Int) (b : List Bool) (e : Eff) : List Bool := if (!e.lit.neg && holdsB s e.when_) = true then b.set e.lit.fact.toNat true else b
def negAll (n : Nat) (s : List Int) (l : List Eff) : List Bool := l.foldl (negStep s) (bitsL n s)
def afterBits (n : Nat) (s : List Int) (l : List Eff) : List Bool := l.foldl (posStep s) (negAll n s l)
def afterL (n : Nat) (s : List Int) (l : List Eff) : List Int := listL (afterBits n s l)

theorem foldl_len {f : List Bool → Eff → List Bool} (h : ∀ b e, (f b e).length = b.length) : ∀ (l : List Eff) (b : List Bool), (l.foldl f b).length = b.length
  | [], _ => rfl
  | e :: r, b => by rw [List.foldl_cons, foldl_len h r, h]
theorem neg_len (s : List Int) (b : List Bool) (e : Eff) : (negStep s b e).length = b.length := by unfold negStep; split <;> simp
theorem pos_len (s : List Int) (b : List Bool) (e : Eff) : (posStep s b e).length = b.length := by unfold posStep; split <;> simp
theorem foldl_take {f : List Bool → Eff → List Bool} {l : List Eff} {b : List Bool} {i : Nat} (hi : i < l.length) : (l.take (i + 1)).foldl f b = f ((l.take i).foldl f b) l[i] := by
  rw [List.take_add_one, List.getElem?_eq_getElem hi, Option.toList_some, List.foldl_append]; rfl

def sSz : List Int → Nat
  | [] => 0
  | _ :: _ => 1
def sT (s : List Int) : T := .sl s.isEmpty (sSz s) (s.map tI)
theorem sT_vl {s : List Int} {β : K → Nat} {RO : Nat → Prop} {w : World} {v : Value} (h : VL β RO w (.t (sT s)) v) : VL β RO w (.ints s.isEmpty s) v := by
  cases s with
  | nil => exact nil_sz β RO w v h
  | cons x r => exact h

theorem el_at {b : List Bool} {n : Nat} (h : n < b.length) : ∃ y, (b.map tB)[0 + n]? = some (tB y) :=
  ⟨b[n], by rw [Nat.zero_add, List.getElem?_map, List.getElem?_eq_getElem h]; rfl⟩
def kp41 : Kp := [(3, ([1, 2, 3, 7, 22, 23, 24], [24, 129000459])), (9, ([1, 7, 48, 49, 50], [129000459]))]
theorem f41_spec (t : Task) (n1 : Bool) (s : List Int) (k : Nat) (TK : TaskOK t) (hs : ∀ x ∈ s, 0 ≤ x ∧ x < (t.facts.length : Int)) (hk : k < t.acts.length) (out : List Fr) :
    SpecP Try.prog 41 [.task t, .ints n1 s, .int k] out fun r ro => r = .t (sT (afterL t.facts.length s t.acts[k].effs)) ∧ ro = [] := by
  refine SpecP.close (Post := fun r ro => r = accV 569001843 1 ((afterL t.facts.length s t.acts[k].effs).map tI) ∧ ro = accO 569001843 3 1 ((afterL t.facts.length s t.acts[k].effs).map tI)) ?_ ?_
  rotate_left
  · rintro r ro ⟨rfl, rfl⟩
    generalize afterL t.facts.length s t.acts[k].effs = L
    cases L with
    | nil => exact ⟨_, .same _, rfl, rfl⟩
    | cons x r =>
      refine ⟨_, .row 569001843 3 1 0 _ ((x :: r).map tI) rfl (by simp), ?_, rfl⟩
      show LV.t (.sl false 1 ((((x :: r).map tI).drop 0).take ((x :: r).map tI).length)) = _
      rw [← take_all]; rfl
  refine spec_body cx_ok kp41 [] (fn := Try.f41) (by kernel_rfl) rfl (by kernel_rfl) rfl (by unfold FnOK; kernel_rfl) fun hok => ?_
  have hfl : (t.facts.map tS).length = t.facts.length := List.length_map ..
  have hN := TK.facts
  have hmem : t.acts[k] ∈ t.acts := List.getElem_mem hk
  have hE := TK.effs _ hmem
  refine SpecP.mono (f69_spec (t.facts.map tS).length n1 s (by omega) (by rw [hfl]; exact hs) []) ?_
  rintro _ _ ⟨rfl, rfl⟩
  refine And.intro (by omega) (Exists.intro _ (And.intro (get_map hk) ?_))
  have nl : ∀ i, ((t.acts[k].effs.take i).foldl (negStep s) (bitsL (t.facts.map tS).length s)).length = t.facts.length := fun i => by rw [foldl_len (neg_len s), bitsL_length, hfl]
  refine LoopW.mk Nat (fun i => i ≤ t.acts[k].effs.length) (fun i => [(1, .ints n1 s), (2, .int k), (3, .ptr (.cur 24) 0), (7, .osl (.cur 129000459) 1 0 (t.facts.map tS).length), (22, .t (.sl t.acts[k].en 3 (t.acts[k].effs.map tEff))), (23, .int (t.acts[k].effs.map tEff).length), (24, .int i)])
    (fun i => ⟨out, [(24, .box (cellsTask t)), (129000459, .row 4 1 (((t.acts[k].effs.take i).foldl (negStep s) (bitsL (t.facts.map tS).length s)).map tB))]⟩) (fun i => t.acts[k].effs.length - i) 0 (Nat.zero_le _) ⟨rfl, rfl⟩ fun i hI => ?_
  refine And.intro (fun h1 => ?_) fun h1 => ?_
  · have hi := lt_of_dec h1
    have hin := TK.lit _ hmem _ (List.getElem_mem hi)
    have hnl := nl i
    have hft : t.acts[k].effs[i].lit.fact.toNat < ((t.acts[k].effs.take i).foldl (negStep s) (bitsL (t.facts.map tS).length s)).length := by rw [hnl]; have := hin.1; have := hin.2; omega
    have stay : (t.acts[k].effs[i].lit.neg && holdsB s t.acts[k].effs[i].when_) = false → (t.acts[k].effs.take (i + 1)).foldl (negStep s) (bitsL (t.facts.map tS).length s) = (t.acts[k].effs.take i).foldl (negStep s) (bitsL (t.facts.map tS).length s) := fun h => by rw [foldl_take hi, negStep, h]; rfl
    refine And.intro (by omega) (Exists.intro _ (And.intro (get_map hi) ?_))
    refine And.intro (fun h2 => ?_) fun h2 => ?_
    · refine SpecP.mono (f25_spec n1 t.acts[k].effs[i].nil s t.acts[k].effs[i].when_ []) ?_
      rintro _ _ ⟨rfl, rfl⟩
      refine And.intro (fun h3 => ?_) fun h3 => ?_
      · obtain ⟨y, hy⟩ := el_at hft
        refine And.intro hin.1 (And.intro (by rw [hfl]; exact hin.2) (Exists.intro (tB y) (And.intro hy (And.intro (Nat.le_refl 1) ?_))))
        refine And.intro (by omega) (And.intro (by omega) ?_)
        refine Exists.intro (i + 1) (And.intro (by show t.acts[k].effs.length - (i + 1) < t.acts[k].effs.length - i; omega) (And.intro hi (And.intro rfl ?_)))
        show (⟨out, [(24, .box (cellsTask t)), (129000459, .row 4 1 ((((t.acts[k].effs.take i).foldl (negStep s) (bitsL (t.facts.map tS).length s)).map tB).set (0 + t.acts[k].effs[i].lit.fact.toNat) (tB false)))]⟩ : St) = _
        rw [Nat.zero_add, map_set', foldl_take hi, negStep, h2, h3]; rfl
      · refine And.intro (by omega) (And.intro (by omega) ?_)
        refine Exists.intro (i + 1) (And.intro (by show t.acts[k].effs.length - (i + 1) < t.acts[k].effs.length - i; omega) (And.intro hi (And.intro rfl ?_)))
        simp only [stay (by rw [h3, Bool.and_false])]
    · refine And.intro (by omega) (And.intro (by omega) ?_)
      refine Exists.intro (i + 1) (And.intro (by show t.acts[k].effs.length - (i + 1) < t.acts[k].effs.length - i; omega) (And.intro hi (And.intro rfl ?_)))
      simp only [stay (by rw [h2, Bool.false_and])]
  have hi : t.acts[k].effs.length ≤ i := ge_of_dec h1
  rw [List.take_of_length_le hi]
  refine And.intro (by omega) (Exists.intro _ (And.intro (get_map hk) ?_))
  have hneg : t.acts[k].effs.foldl (negStep s) (bitsL (t.facts.map tS).length s) = negAll t.facts.length s t.acts[k].effs := by rw [hfl]; rfl
  rw [hneg]
  have pl : ∀ i, ((t.acts[k].effs.take i).foldl (posStep s) (negAll t.facts.length s t.acts[k].effs)).length = t.facts.length := fun i => by rw [foldl_len (pos_len s), negAll, foldl_len (neg_len s), bitsL_length]
  clear h1 hi
  refine LoopW.mk Nat (fun i => i ≤ t.acts[k].effs.length) (fun i => [(1, .ints n1 s), (7, .osl (.cur 129000459) 1 0 (t.facts.map tS).length), (48, .t (.sl t.acts[k].en 3 (t.acts[k].effs.map tEff))), (49, .int (t.acts[k].effs.map tEff).length), (50, .int i)])
    (fun i => ⟨out, [(129000459, .row 4 1 (((t.acts[k].effs.take i).foldl (posStep s) (negAll t.facts.length s t.acts[k].effs)).map tB))]⟩) (fun i => t.acts[k].effs.length - i) 0 (Nat.zero_le _) ⟨rfl, rfl⟩ fun i hI => ?_
  refine And.intro (fun h1 => ?_) fun h1 => ?_
  · have hi := lt_of_dec h1
    have hin := TK.lit _ hmem _ (List.getElem_mem hi)
    have hnl := pl i
    have hft : t.acts[k].effs[i].lit.fact.toNat < ((t.acts[k].effs.take i).foldl (posStep s) (negAll t.facts.length s t.acts[k].effs)).length := by rw [hnl]; have := hin.1; have := hin.2; omega
    have stay : (!t.acts[k].effs[i].lit.neg && holdsB s t.acts[k].effs[i].when_) = false → (t.acts[k].effs.take (i + 1)).foldl (posStep s) (negAll t.facts.length s t.acts[k].effs) = (t.acts[k].effs.take i).foldl (posStep s) (negAll t.facts.length s t.acts[k].effs) := fun h => by rw [foldl_take hi, posStep, h]; rfl
    refine And.intro (by omega) (Exists.intro _ (And.intro (get_map hi) ?_))
    refine And.intro (fun h2 => ?_) fun h2 => ?_
    · refine And.intro (by omega) (And.intro (by omega) ?_)
      refine Exists.intro (i + 1) (And.intro (by show t.acts[k].effs.length - (i + 1) < t.acts[k].effs.length - i; omega) (And.intro hi (And.intro rfl ?_)))
      simp only [stay (by rw [h2]; rfl)]
    · refine SpecP.mono (f25_spec n1 t.acts[k].effs[i].nil s t.acts[k].effs[i].when_ []) ?_
      rintro _ _ ⟨rfl, rfl⟩
      refine And.intro (fun h3 => ?_) fun h3 => ?_
      · obtain ⟨y, hy⟩ := el_at hft
        refine And.intro hin.1 (And.intro (by rw [hfl]; exact hin.2) (Exists.intro (tB y) (And.intro hy (And.intro (Nat.le_refl 1) ?_))))
        refine And.intro (by omega) (And.intro (by omega) ?_)
        refine Exists.intro (i + 1) (And.intro (by show t.acts[k].effs.length - (i + 1) < t.acts[k].effs.length - i; omega) (And.intro hi (And.intro rfl ?_)))
        show (⟨out, [(129000459, .row 4 1 ((((t.acts[k].effs.take i).foldl (posStep s) (negAll t.facts.length s t.acts[k].effs)).map tB).set (0 + t.acts[k].effs[i].lit.fact.toNat) (tB true)))]⟩ : St) = _
        rw [Nat.zero_add, map_set', foldl_take hi, posStep, h2, h3]; rfl
      · refine And.intro (by omega) (And.intro (by omega) ?_)
        refine Exists.intro (i + 1) (And.intro (by show t.acts[k].effs.length - (i + 1) < t.acts[k].effs.length - i; omega) (And.intro hi (And.intro rfl ?_)))
        simp only [stay (by rw [h3, Bool.and_false])]
  have hi : t.acts[k].effs.length ≤ i := ge_of_dec h1
  have hpl := pl i
  rw [List.take_of_length_le hi] at hpl ⊢
  have hab : t.acts[k].effs.foldl (posStep s) (negAll t.facts.length s t.acts[k].effs) = afterBits t.facts.length s t.acts[k].effs := rfl
  rw [hab] at hpl ⊢
  refine Exists.intro ((afterBits t.facts.length s t.acts[k].effs).map tB) (And.intro (lend (by rw [hpl, hfl])) (And.intro (lend2 (by rw [hpl, hfl])) ?_))
  have m77 := f77_spec false (afterBits t.facts.length s t.acts[k].effs) (by omega)
  have haf : afterL t.facts.length s t.acts[k].effs = listL (afterBits t.facts.length s t.acts[k].effs) := rfl
  rw [haf]
  generalize listL (afterBits t.facts.length s t.acts[k].effs) = L at m77
  refine SpecP.mono (m77 _) ?_
  rintro _ _ ⟨rfl, rfl⟩
  cases L with
  | nil =>
    refine And.intro trivial (And.intro trivial ?_)
    exact Exists.intro [569001843] ⟨rfl, rfl⟩
  | cons x r =>
    refine And.intro trivial (And.intro ⟨flat_ints (b := x :: r), trivial⟩ ?_)
    exact Exists.intro [569001843] ⟨rfl, rfl⟩

end Go.Fw

/- Texts that lead to the law, part 12. -/
import Derived.Test.YtkelfldopopgcaaGreatZK
import Derived.Test.YtkelfldopopgcaaGreatRows
import Derived.Test.YtkelfldopopgcaaGreatZI
import Derived.Carry
import Derived.ProofKit
import Derived.Deep.Slices
import Derived.SizedLaws

/- What the reference's functions do: the costs to the goals. -/
namespace Go.Fw
open Go Go.Proofs
set_option maxRecDepth 10000

def costA (u : Task) (a : Nat) : Int := match u.acts[a]? with
  | some x => x.cost
  | none => 0
/-- The steps with what they cost. -/
def edgC (u : Task) (E : List (Nat × Nat × Nat)) : List (Nat × Nat × Int) := E.map fun e => (e.1, e.2.1, costA u e.2.2)
def goalB (u : Task) (S : List (List Int)) (x : Nat) : Bool := match S[x]? with
  | some y => holdsB y u.goal
  | none => false
def ini (u : Task) (y : List Int) : Int := if holdsB y u.goal = true then 0 else -1
def iniL (u : Task) (S : List (List Int)) (i : Nat) : List Int := (S.take i).map (ini u) ++ List.replicate (S.length - i) 0
theorem iniL_len {u : Task} {S : List (List Int)} {i : Nat} (hi : i ≤ S.length) : (iniL u S i).length = S.length := by
  rw [iniL, List.length_append, List.length_map, List.length_take, List.length_replicate]; omega
theorem iniL_step {u : Task} {S : List (List Int)} {i : Nat} (hi : i < S.length) : (iniL u S i).set i (ini u S[i]) = iniL u S (i + 1) := by
  have hl : ((S.take i).map (ini u)).length = i := by rw [List.length_map, List.length_take]; omega
  rw [iniL, iniL, List.set_append_right _ _ (by omega), hl, Nat.sub_self, List.take_add_one, List.getElem?_eq_getElem hi, List.map_append, show S.length - i = (S.length - (i + 1)) + 1 by omega, List.replicate_succ, List.set_cons_zero]
  simp
theorem ini_bi (u : Task) (S : List (List Int)) (E : List (Nat × Nat × Int)) (C : Nat) : Bel.BI E (goalB u S) C (iniL u S S.length) := by
  have e : iniL u S S.length = S.map (ini u) := by rw [iniL, List.take_length, Nat.sub_self]; simp
  have key : ∀ (x : Nat) d, (iniL u S S.length)[x]? = some d → ∃ y, S[x]? = some y ∧ d = ini u y := fun x d h => by
    rw [e, List.getElem?_map] at h
    cases hy : S[x]? with
    | none => rw [hy] at h; cases h
    | some y => rw [hy] at h; exact ⟨y, rfl, (Option.some.inj h).symm⟩
  refine ⟨fun x d h hg => ?_, fun x d h h0 => ?_, fun x d h => ?_⟩
  · obtain ⟨y, hy, rfl⟩ := key x d h
    rw [goalB, hy] at hg
    rw [ini, if_pos hg]
  · obtain ⟨y, hy, rfl⟩ := key x d h
    unfold ini at h0 ⊢
    split at h0
    · rename_i hg
      rw [if_pos hg]
      exact .goal (by rw [goalB, hy]; exact hg)
    · omega
  · obtain ⟨y, hy, rfl⟩ := key x d h
    by_cases hg : holdsB y u.goal = true
    · left
      have hc : 1 ≤ Bel.cnt (iniL u S S.length) := by
        refine List.countP_pos_iff.2 ⟨ini u y, List.mem_of_getElem? h, ?_⟩
        rw [ini, if_pos hg]; rfl
      rw [ini, if_pos hg]
      exact Int.mul_nonneg (by omega) (by omega)
    · right; rw [ini, if_neg hg]; decide

/-- The first steps make no cost better. -/
def NonB (u : Task) (E : List (Nat × Nat × Nat)) (D : List Int) (j : Nat) : Prop := ∀ (m : Nat) e, m < j → E[m]? = some e → ∃ o v, D[e.1]? = some o ∧ D[e.2.1]? = some v ∧ (0 ≤ v → 0 ≤ o ∧ o ≤ v + costA u e.2.2)
def kqT : Kp := [(3, ([2, 3, 7, 17, 18, 19], [24, 128])), (10, ([2, 3, 7, 10], [24, 128])), (13, ([2, 3, 7, 10, 36, 37, 38], [24, 128]))]
def oqT : Od := [(16, [(0, .pure), (1, .pure), (2, .pure), (3, .pure), (4, .pure), (5, .pure), (6, .pure), (7, .pure), (8, .pure), (9, .pure), (10, .pure), (11, .pure), (12, .pure), (13, .pure)])]
theorem f43_spec (u : Task) (n1 b : Bool) (S : List (List Int)) (E : List (Nat × Nat × Nat)) (TK : TaskOK u) (hl : S.length ≤ 20000) (hE : ∀ e ∈ E, EdgeR u S e) (hEl : E.length ≤ 20000000) (out : List Fr) :
    SpecP Tryz.prog 43 [.task u, .t (.sl n1 1 (tLs (lsS S))), .t (.sl b 3 (E.map tEd))] out fun r ro => ∃ D : List Int, D.length = S.length ∧ Bel.BI (edgC u E) (goalB u S) 100000 D ∧
      (∀ f t c, (f, t, c) ∈ edgC u E → ∃ o v, D[f]? = some o ∧ D[t]? = some v ∧ (0 ≤ v → 0 ≤ o ∧ o ≤ v + c)) ∧ r = .osl (.cur 128) 1 0 S.length ∧ ro = [(128, .row 3 1 (D.map tI))] := by
  have hA := TK.acts
  refine spec_body cx_ok kqT oqT (fn := Tryz.f43) (by kernel_rfl) rfl (by kernel_rfl) rfl (by unfold FnOK; kernel_rfl) fun hok => ?_
  have hsl : ((tLs (lsS S)).length : Int) = (S.length : Int) := by rw [lsS_len]
  refine And.intro rfl (And.intro (Int.natCast_nonneg _) (And.intro (by show (((tLs (lsS S)).length : Nat) : Int) * 8 ≤ _; omega) (And.intro (by omega) ?_)))
  have hz : (List.replicate (tLs (lsS S)).length [T.v (.int .i64 0)]) = (iniL u S 0).map tI := by
    rw [lsS_len, iniL, List.take_zero, List.map_nil, List.nil_append, Nat.sub_zero, List.map_replicate]; rfl
  refine LoopW.mk Nat (fun i => i ≤ S.length) (fun i => [(2, .t (.sl b 3 (E.map tEd))), (3, .ptr (.cur 24) 0), (7, .osl (.cur 128) 1 0 S.length), (17, .t (.sl n1 1 (tLs (lsS S)))), (18, .int (tLs (lsS S)).length), (19, .int i)])
    (fun i => ⟨out, [(24, .box (cellsTask u)), (128, .row 3 1 ((iniL u S i).map tI))]⟩) (fun i => S.length - i) 0 (Nat.zero_le _) ⟨?_, ?_⟩ fun i hi0 => ?_
  · rw [← lsS_len]; rfl
  · show (⟨out, [(24, .box (cellsTask u)), (128, .row 3 1 (List.replicate (tLs (lsS S)).length [T.v (.int .i64 0)]))]⟩ : St) = _
    rw [hz]
  refine And.intro (fun h1 => ?_) fun h1 => ?_
  · have hi : i < S.length := by have h1 : (i : Int) < (((tLs (lsS S)).length : Nat) : Int) := of_decide_eq_true h1; omega
    refine And.intro (Int.natCast_nonneg _) (Exists.intro _ (And.intro (lsS_get hi) ?_))
    have hil : i < (iniL u S i).length := by rw [iniL_len (by omega)]; exact hi
    have hstp := iniL_step (u := u) hi
    refine And.intro (Int.natCast_nonneg _) (And.intro (Int.ofNat_lt.2 hi) (Exists.intro (tI (iniL u S i)[i]) (And.intro (by rw [Nat.zero_add, Int.toNat_natCast, List.getElem?_map, List.getElem?_eq_getElem hil]; rfl) (And.intro (Nat.le_refl 1) ?_))))
    refine SpecP.mono (f64_spec S[i].isEmpty u.gn S[i] u.goal _) ?_
    rintro _ _ ⟨rfl, rfl⟩
    have e1 : ((iniL u S i).map tI).set (0 + ((i : Nat) : Int).toNat) (tI (-1)) = ((iniL u S i).set i (-1)).map tI := by rw [Nat.zero_add, Int.toNat_natCast, List.map_set]
    refine And.intro (fun h2 => ?_) fun h2 => ?_
    · have h2 : holdsB S[i] u.goal = true := h2
      have e2 : (((iniL u S i).map tI).set (0 + ((i : Nat) : Int).toNat) (tI (-1))).set (0 + ((i : Nat) : Int).toNat) (tI 0) = (iniL u S (i + 1)).map tI := by
        rw [← hstp, ini, if_pos h2, List.set_set, Nat.zero_add, Int.toNat_natCast, List.map_set]
      refine And.intro (Int.natCast_nonneg _) (And.intro (Int.ofNat_lt.2 hi) (Exists.intro (tI (-1)) (And.intro (by show (((iniL u S i).map tI).set (0 + ((i : Nat) : Int).toNat) (tI (-1)))[0 + ((i : Nat) : Int).toNat]? = _; rw [Nat.zero_add, Int.toNat_natCast, List.getElem?_set_self (by rw [List.length_map]; exact hil)]) (And.intro (Nat.le_refl 1) ?_))))
      refine And.intro (by omega) (And.intro (by omega) ?_)
      refine Exists.intro (i + 1) (And.intro (by show S.length - (i + 1) < S.length - i; omega) (And.intro hi (And.intro rfl ?_)))
      show (⟨out, [(24, .box (cellsTask u)), (128, .row 3 1 ((((iniL u S i).map tI).set (0 + ((i : Nat) : Int).toNat) (tI (-1))).set (0 + ((i : Nat) : Int).toNat) (tI 0)))]⟩ : St) = _
      rw [e2]
    · have h2 : holdsB S[i] u.goal = false := h2
      have e2 : ((iniL u S i).map tI).set (0 + ((i : Nat) : Int).toNat) (tI (-1)) = (iniL u S (i + 1)).map tI := by
        rw [← hstp, ini, if_neg (by rw [h2]; exact Bool.noConfusion), Nat.zero_add, Int.toNat_natCast, List.map_set]
      refine And.intro (by omega) (And.intro (by omega) ?_)
      refine Exists.intro (i + 1) (And.intro (by show S.length - (i + 1) < S.length - i; omega) (And.intro hi (And.intro rfl ?_)))
      show (⟨out, [(24, .box (cellsTask u)), (128, .row 3 1 (((iniL u S i).map tI).set (0 + ((i : Nat) : Int).toNat) (tI (-1))))]⟩ : St) = _
      rw [e2]
  have hi : i = S.length := by have h1 : ¬ (i : Int) < (((tLs (lsS S)).length : Nat) : Int) := of_decide_eq_false h1; omega
  subst hi
  refine LoopW.mk (List Int × Bool) (fun v => v.1.length = S.length ∧ Bel.BI (edgC u E) (goalB u S) 100000 v.1 ∧ (v.2 = false → NonB u E v.1 E.length)) (fun v => [(2, .t (.sl b 3 (E.map tEd))), (3, .ptr (.cur 24) 0), (7, .osl (.cur 128) 1 0 S.length), (10, .bool v.2)])
    (fun v => ⟨out, [(24, .box (cellsTask u)), (128, .row 3 1 (v.1.map tI))]⟩) (fun v => 2 * Bel.mea (100000 * S.length) v.1 + if v.2 = true then 1 else 0) (iniL u S S.length, true) ⟨iniL_len (Nat.le_refl _), ini_bi u S _ _, fun h => Bool.noConfusion h⟩ ⟨rfl, rfl⟩ ?_
  rintro ⟨D, more⟩ ⟨hDl, hB, hNo⟩
  replace hDl : D.length = S.length := hDl
  replace hB : Bel.BI (edgC u E) (goalB u S) 100000 D := hB
  replace hNo : more = false → NonB u E D E.length := hNo
  cases more with
  | false =>
    refine Exists.intro [128] ⟨D, hDl, hB, fun f t c he => ?_, rfl, rfl⟩
    obtain ⟨e, he, heq⟩ := List.mem_map.1 he
    obtain ⟨m, hm⟩ := List.mem_iff_getElem?.1 he
    cases heq
    exact hNo rfl m e (List.getElem?_eq_some_iff.1 hm).1 hm
  | true =>
  refine LoopW.mk (Nat × List Int × Bool) (fun v => v.1 ≤ E.length ∧ v.2.1.length = S.length ∧ Bel.BI (edgC u E) (goalB u S) 100000 v.2.1 ∧ Bel.mea (100000 * S.length) v.2.1 ≤ Bel.mea (100000 * S.length) D ∧ (v.2.2 = true → Bel.mea (100000 * S.length) v.2.1 < Bel.mea (100000 * S.length) D) ∧ (v.2.2 = false → NonB u E v.2.1 v.1))
    (fun v => [(2, .t (.sl b 3 (E.map tEd))), (3, .ptr (.cur 24) 0), (7, .osl (.cur 128) 1 0 S.length), (10, .bool v.2.2), (36, .t (.sl b 3 (E.map tEd))), (37, .int (E.map tEd).length), (38, .int v.1)])
    (fun v => ⟨out, [(24, .box (cellsTask u)), (128, .row 3 1 (v.2.1.map tI))]⟩) (fun v => E.length - v.1) (0, D, false) ⟨Nat.zero_le _, hDl, hB, Nat.le_refl _, fun h => Bool.noConfusion h, fun _ m e h => by cases h⟩ ⟨rfl, rfl⟩ ?_
  rintro ⟨j, F, mo⟩ ⟨hj0, hFl, hF, hle, hlt, hno⟩
  replace hj0 : j ≤ E.length := hj0
  replace hFl : F.length = S.length := hFl
  replace hF : Bel.BI (edgC u E) (goalB u S) 100000 F := hF
  replace hle : Bel.mea (100000 * S.length) F ≤ Bel.mea (100000 * S.length) D := hle
  replace hlt : mo = true → Bel.mea (100000 * S.length) F < Bel.mea (100000 * S.length) D := hlt
  replace hno : mo = false → NonB u E F j := hno
  refine And.intro (fun h1 => ?_) fun h1 => ?_
  rotate_left
  · have hj : j = E.length := by have := ge_of_dec h1; omega
    subst hj
    refine Exists.intro (F, mo) (And.intro ?_ (And.intro ⟨hFl, hF, hno⟩ (And.intro rfl rfl)))
    show 2 * Bel.mea (100000 * S.length) F + (if mo = true then 1 else 0) < 2 * Bel.mea (100000 * S.length) D + 1
    cases mo
    · rw [if_neg Bool.noConfusion]; omega
    · have := hlt rfl
      rw [if_pos rfl]; omega
  have hj := lt_of_dec h1
  obtain ⟨x, ha, hef, het, hep⟩ := hE _ (List.getElem_mem hj)
  have hEj : E[j]? = some E[j] := List.getElem?_eq_getElem hj
  refine And.intro (Int.natCast_nonneg _) (Exists.intro _ (And.intro (get_map hj) ?_))
  have hfl : E[j].1 < F.length := by rw [hFl]; exact (List.getElem?_eq_some_iff.1 hef).1
  have htl : E[j].2.1 < F.length := by rw [hFl]; exact (List.getElem?_eq_some_iff.1 het).1
  have hem : (E[j].1, E[j].2.1, costA u E[j].2.2) ∈ edgC u E := List.mem_map_of_mem (f := fun e : Nat × Nat × Nat => (e.1, e.2.1, costA u e.2.2)) (List.getElem_mem hj)
  have hca : costA u E[j].2.2 = u.acts[E[j].2.2].cost := by rw [costA, List.getElem?_eq_getElem ha]
  have hcb := TK.cost _ (List.getElem_mem ha)
  rw [← hca] at hcb
  have hvt : F[E[j].2.1]? = some F[E[j].2.1] := List.getElem?_eq_getElem htl
  have hof : F[E[j].1]? = some F[E[j].1] := List.getElem?_eq_getElem hfl
  have gt : ∀ n : Nat, ∀ h : n < F.length, (F.map tI)[0 + ((n : Nat) : Int).toNat]? = some (tI F[n]) := fun n h => by
    rw [Nat.zero_add, Int.toNat_natCast, List.getElem?_map, List.getElem?_eq_getElem h]; rfl
  have next : (0 ≤ F[E[j].2.1] → 0 ≤ F[E[j].1] ∧ F[E[j].1] ≤ F[E[j].2.1] + costA u E[j].2.2) → mo = false → NonB u E F (j + 1) := fun h hm m e hmj he => by
    by_cases hmj2 : m = j
    · subst hmj2
      rw [hEj] at he
      cases he
      exact ⟨_, _, hof, hvt, h⟩
    · exact hno hm m e (by omega) he
  have hvb := hF.bound hvt
  generalize hv : F[E[j].2.1] = v at *
  generalize ho : F[E[j].1] = o at *
  rw [hFl] at hvb
  refine And.intro (Int.natCast_nonneg _) (And.intro (by rw [← hFl]; exact Int.ofNat_lt.2 htl) (Exists.intro (tI v) (And.intro (by rw [← hv]; exact gt _ htl) ?_)))
  refine And.intro (fun h2 => ?_) fun h2 => ?_
  · have h2 : v < 0 := of_decide_eq_true h2
    refine And.intro (by show (-9223372036854775808 : Int) ≤ (j : Int) + 1; omega) (And.intro (by show (j : Int) + 1 ≤ 9223372036854775807; omega) ?_)
    exact Exists.intro (j + 1, F, mo) (And.intro (by show E.length - (j + 1) < E.length - j; omega) (And.intro ⟨hj, hFl, hF, hle, hlt, next fun h => by omega⟩ (And.intro rfl rfl)))
  have h2 : 0 ≤ v := by have h2 : ¬ v < 0 := of_decide_eq_false h2; omega
  have hvb := hvb h2
  refine And.intro (Int.natCast_nonneg _) (And.intro (by rw [← hFl]; exact Int.ofNat_lt.2 htl) (Exists.intro (tI v) (And.intro (by rw [← hv]; exact gt _ htl) ?_)))
  refine And.intro (Int.natCast_nonneg _) (Exists.intro _ (And.intro (get_map ha) ?_))
  have hsum : v + u.acts[E[j].2.2].cost ≤ 3000000000 := by rw [← hca]; omega
  have hcb0 := hcb.1
  rw [hca] at hcb0
  refine And.intro (by show -9223372036854775808 ≤ v + u.acts[E[j].2.2].cost; omega) (And.intro (by show v + u.acts[E[j].2.2].cost ≤ 9223372036854775807; omega) ?_)
  refine And.intro (Int.natCast_nonneg _) (And.intro (by rw [← hFl]; exact Int.ofNat_lt.2 hfl) (Exists.intro (tI o) (And.intro (by rw [← ho]; exact gt _ hfl) ?_)))
  have hst : (F.map tI).set (0 + ((E[j].1 : Nat) : Int).toNat) (tI (v + u.acts[E[j].2.2].cost)) = (F.set E[j].1 (v + costA u E[j].2.2)).map tI := by
    rw [Nat.zero_add, Int.toNat_natCast, List.map_set, hca]
  have better : (o < 0 ∨ v + costA u E[j].2.2 < o) → Bel.BI (edgC u E) (goalB u S) 100000 (F.set E[j].1 (v + costA u E[j].2.2)) ∧ Bel.mea (100000 * S.length) (F.set E[j].1 (v + costA u E[j].2.2)) < Bel.mea (100000 * S.length) F := fun h => by
    have := hF.better hem hcb hvt h2 hof h
    rwa [hFl] at this
  refine And.intro (fun h3 => ?_) fun h3 => ?_
  · have h3 : o < 0 := of_decide_eq_true h3
    have hbet := better (.inl h3)
    refine And.intro (Int.natCast_nonneg _) (And.intro (by rw [← hFl]; exact Int.ofNat_lt.2 hfl) (Exists.intro (tI o) (And.intro (by rw [← ho]; exact gt _ hfl) (And.intro (Nat.le_refl 1) ?_))))
    refine And.intro (by show (-9223372036854775808 : Int) ≤ (j : Int) + 1; omega) (And.intro (by show (j : Int) + 1 ≤ 9223372036854775807; omega) ?_)
    refine Exists.intro (j + 1, F.set E[j].1 (v + costA u E[j].2.2), true) (And.intro (by show E.length - (j + 1) < E.length - j; omega) (And.intro ⟨hj, by show (F.set _ _).length = _; rw [List.length_set]; exact hFl, hbet.1, by show Bel.mea (100000 * S.length) (F.set _ _) ≤ _; omega, fun _ => by show Bel.mea (100000 * S.length) (F.set _ _) < _; omega, fun h => Bool.noConfusion h⟩ (And.intro rfl ?_)))
    show (⟨out, [(24, .box (cellsTask u)), (128, .row 3 1 ((F.map tI).set (0 + ((E[j].1 : Nat) : Int).toNat) (tI (v + u.acts[E[j].2.2].cost))))]⟩ : St) = _
    rw [hst]
  have h3 : ¬ o < 0 := of_decide_eq_false h3
  refine And.intro (Int.natCast_nonneg _) (And.intro (by rw [← hFl]; exact Int.ofNat_lt.2 hfl) (Exists.intro (tI o) (And.intro (by rw [← ho]; exact gt _ hfl) ?_)))
  refine And.intro (fun h4 => ?_) fun h4 => ?_
  · have h4 : v + u.acts[E[j].2.2].cost < o := of_decide_eq_true h4
    rw [← hca] at h4
    have hbet := better (.inr h4)
    refine And.intro (Int.natCast_nonneg _) (And.intro (by rw [← hFl]; exact Int.ofNat_lt.2 hfl) (Exists.intro (tI o) (And.intro (by rw [← ho]; exact gt _ hfl) (And.intro (Nat.le_refl 1) ?_))))
    refine And.intro (by show (-9223372036854775808 : Int) ≤ (j : Int) + 1; omega) (And.intro (by show (j : Int) + 1 ≤ 9223372036854775807; omega) ?_)
    refine Exists.intro (j + 1, F.set E[j].1 (v + costA u E[j].2.2), true) (And.intro (by show E.length - (j + 1) < E.length - j; omega) (And.intro ⟨hj, by show (F.set _ _).length = _; rw [List.length_set]; exact hFl, hbet.1, by show Bel.mea (100000 * S.length) (F.set _ _) ≤ _; omega, fun _ => by show Bel.mea (100000 * S.length) (F.set _ _) < _; omega, fun h => Bool.noConfusion h⟩ (And.intro rfl ?_)))
    show (⟨out, [(24, .box (cellsTask u)), (128, .row 3 1 ((F.map tI).set (0 + ((E[j].1 : Nat) : Int).toNat) (tI (v + u.acts[E[j].2.2].cost))))]⟩ : St) = _
    rw [hst]
  · have h4 : ¬ v + u.acts[E[j].2.2].cost < o := of_decide_eq_false h4
    rw [← hca] at h4
    refine And.intro (by show (-9223372036854775808 : Int) ≤ (j : Int) + 1; omega) (And.intro (by show (j : Int) + 1 ≤ 9223372036854775807; omega) ?_)
    exact Exists.intro (j + 1, F, mo) (And.intro (by show E.length - (j + 1) < E.length - j; omega) (And.intro ⟨hj, hFl, hF, hle, hlt, next fun _ => by omega⟩ (And.intro rfl rfl)))

end Go.Fw

/- What the reference's functions do: the optimal cost. -/
namespace Go.Fw
open Go Go.Proofs
set_option maxRecDepth 10000

theorem wk_way {u : Task} {S : List (List Int)} {E : List (Nat × Nat × Nat)} (hE : Eds u S S.length E) {x : Nat} {d : Int} (p : Bel.Wk (edgC u E) (goalB u S) x d) : ∀ y, S[x]? = some y → ∃ s', holdsB s' u.goal = true ∧ Way u y d s' := by
  induction p with
  | goal h =>
    intro y hy
    rw [goalB, hy] at h
    exact ⟨y, h, .nil _⟩
  | step h _ ih =>
    intro y hy
    obtain ⟨e, he, heq⟩ := List.mem_map.1 h
    cases heq
    obtain ⟨z, ha, h1, h2, h3⟩ := hE.sound e he
    rw [hy] at h1
    cases h1
    obtain ⟨s', hg, q⟩ := ih _ h2
    refine ⟨s', hg, .cons ?_ q⟩
    rw [costA, List.getElem?_eq_getElem ha]
    exact succ_mem ha h3
theorem way_wk {u : Task} {S : List (List Int)} {E : List (Nat × Nat × Nat)} (hE : Eds u S S.length E) {y s' : List Int} {d : Int} (p : Way u y d s') (hg : holdsB s' u.goal = true) : ∀ x : Nat, S[x]? = some y → Bel.Wk (edgC u E) (goalB u S) x d := by
  induction p with
  | nil s => exact fun x hx => .goal (by rw [goalB, hx]; exact hg)
  | cons h _ ih =>
    intro x hx
    obtain ⟨a, ha, heq⟩ := List.mem_map.1 h
    obtain ⟨ha1, ha2⟩ := List.mem_filter.1 ha
    obtain ⟨k, hk, rfl⟩ := List.getElem_of_mem ha1
    cases heq
    obtain ⟨t, ht⟩ := hE.compl x _ k hk (List.getElem?_eq_some_iff.1 hx).1 hx ha2
    obtain ⟨z, _, h1, h2, _⟩ := hE.sound _ ht
    rw [hx] at h1
    cases h1
    have hm : (x, t, costA u k) ∈ edgC u E := List.mem_map_of_mem (f := fun e : Nat × Nat × Nat => (e.1, e.2.1, costA u e.2.2)) ht
    rw [costA, List.getElem?_eq_getElem hk] at hm
    exact .step hm (ih hg t h2)
/-- What the least costs say of the first state. -/
theorem least_opt {u : Task} {s : List Int} {S : List (List Int)} {E : List (Nat × Nat × Nat)} {D : List Int} {C : Nat} {a : Int} (hE : Eds u S S.length E) (hB : Bel.BI (edgC u E) (goalB u S) C D)
    (hN : ∀ f t c, (f, t, c) ∈ edgC u E → ∃ o v, D[f]? = some o ∧ D[t]? = some v ∧ (0 ≤ v → 0 ≤ o ∧ o ≤ v + c)) (h0 : S[0]? = some s) (ha : D[0]? = some a) {B : Int} (hCB : ((C * D.length : Nat) : Int) ≤ B) :
    (a < 0 ∧ ∀ s' d, Way u s d s' → holdsB s' u.goal = false) ∨ (0 ≤ a ∧ a ≤ B ∧ Dij.Opt (succ u) (fun x => holdsB x u.goal) s a) := by
  by_cases h : a < 0
  · left
    refine ⟨h, fun s' d p => ?_⟩
    cases hg : holdsB s' u.goal with
    | false => rfl
    | true =>
      have := hB.least hN ha (way_wk hE p hg 0 h0)
      omega
  · right
    have h1 : 0 ≤ a := by omega
    refine ⟨h1, Int.le_trans (hB.bound ha h1) hCB, ?_, fun s' d hg p => (hB.least hN ha (way_wk hE p hg 0 h0)).2⟩
    obtain ⟨s', hg, p⟩ := wk_way hE (hB.way 0 a ha h1) s h0
    exact ⟨s', hg, p⟩

def oqP : Od := [(1, [(0, .pure), (1, .pure), (2, .pure), (3, .pure), (6, .pure), (7, .pure), (4, .eff), (5, .eff), (8, .eff), (9, .pure), (10, .pure), (11, .pure)])]
/-- The optimal cost from the first state, or less than nothing. -/
abbrev OptC (u : Task) (s : List Int) (a : Int) : Prop := (a < 0 ∧ ∀ s' d, Way u s d s' → holdsB s' u.goal = false) ∨ (0 ≤ a ∧ a ≤ 2000000000 ∧ Dij.Opt (succ u) (fun x => holdsB x u.goal) s a)
theorem f21_spec (u : Task) (n1 n2 : Bool) (s : List Int) (R : List (List Int)) (TK : TaskOK u) (hn : (s :: R).Nodup) (hr : ∀ x ∈ s :: R, risingB x u.facts.length = true) (hc : ∀ x ∈ s :: R, ∀ e ∈ succ u x, e.2 ∈ s :: R) (hl : (s :: R).length ≤ 20000) (out : List Fr) :
    SpecP Tryz.prog 21 [.task u, .t (.sl n1 1 (tLs (lsS (s :: R)))), .ints n2 s] out fun r ro => ∃ a : Int, OptC u s a ∧ r = .int a ∧ ro = [] := by
  refine spec_body cx_ok [] oqP (fn := Tryz.f21) (by kernel_rfl) rfl (by kernel_rfl) rfl (by unfold FnOK; kernel_rfl) fun hok => ?_
  refine SpecP.mono (f44_spec u n1 (s :: R) TK hn hr hc hl _) ?_
  rintro _ _ ⟨E, hE, hEl, rfl, rfl⟩
  have hEl2 : E.length ≤ 20000000 := Nat.le_trans hEl (by omega)
  have m43 := f43_spec u n1 false (s :: R) E TK hl hE.sound hEl2
  have m43n : E = [] → ∀ out, SpecP Tryz.prog 43 [.task u, .t (.sl n1 1 (tLs (lsS (s :: R)))), .t (.sl true 0 [])] out _ := fun h out => SpecP.conv (args' := [.task u, .t (.sl n1 1 (tLs (lsS (s :: R)))), .t (.sl true 3 (E.map tEd))]) (fun β RO w vals hv => ⟨hv.1, fun i z v hz hvz => by
    match i with
    | 0 => exact hv.2 0 z v hz hvz
    | 1 => exact hv.2 1 z v hz hvz
    | 2 => simp [h] at hz; subst hz; exact nil_sz _ _ _ _ (hv.2 2 _ v rfl hvz)
    | i + 3 => simp at hz⟩) (f43_spec u n1 true (s :: R) E TK hl hE.sound hEl2 out)
  cases E
  case' nil =>
    let W : List (Nat × Nat × Nat) := []
    refine And.intro ⟨rfl, rfl, rfl⟩ ?_
    refine SpecP.mono (m43n rfl _) ?_
  case' cons e0 E0 =>
    let W : List (Nat × Nat × Nat) := e0 :: E0
    refine And.intro ⟨rfl, rfl, rfl⟩ ?_
    refine Exists.intro _ (And.intro take_all (And.intro (Nat.le_of_eq (Nat.zero_add _)) ?_))
    refine SpecP.mono (m43 _) ?_
  all_goals
    rintro _ _ ⟨D, hDl, hB, hN, rfl, rfl⟩
    have h0 : (s :: R)[0]? = some s := rfl
    have hDp : 0 < D.length := by rw [hDl, List.length_cons]; omega
    have hD0 : D[0]? = some D[0] := List.getElem?_eq_getElem hDp
    have hopt := least_opt (B := 2000000000) hE hB hN h0 hD0 (by rw [hDl, Int.natCast_mul]; omega)
    have hel : (D.map tI)[0 + ((0 : Int)).toNat]? = some (tI D[0]) := by rw [List.getElem?_map]; show Option.map tI D[0]? = _; rw [hD0]; rfl
    first
      | refine And.intro trivial (And.intro ⟨flat_ints (b := D), trivial⟩ (And.intro ⟨rfl, rfl, rfl⟩ ?_))
      | refine And.intro ⟨rfl, rfl, rfl⟩ ?_
    refine SpecP.mono (f45_spec n1 n2 s.isEmpty s (lsS R) _) ?_
    rintro _ _ ⟨rfl, rfl⟩
    refine And.intro ⟨rfl, rfl, rfl⟩ ?_
    refine And.intro (Int.le_refl 0) (And.intro (by show (0 : Int) < (((s :: R).length : Nat) : Int); rw [List.length_cons]; omega) (Exists.intro (tI D[0]) (And.intro hel ?_)))
    exact Exists.intro [] ⟨D[0], hopt, rfl, rfl⟩

end Go.Fw

/- What the reference's functions do: the cost of a projection. -/
namespace Go.Fw
open Go Go.Proofs
set_option maxRecDepth 10000

theorem f13_spec (t : Task) (n1 n2 : Bool) (p s : List Int) (ht : isB t = true) (hp : risingB p t.facts.length = true) (hs : risingB s t.facts.length = true) (out : List Fr) :
    SpecP Tryz.prog 13 [.task t, .ints n1 p, .ints n2 s] out fun r ro => OptR (projT t p) (factsL p s) r ∧ ro = [] := by
  have TK := task_ok ht
  have hpl := rising_len hp (by have := TK.facts; omega)
  have TU := projT_ok TK hp
  have hul : (projT t p).facts.length = p.length := List.length_map ..
  have hfs : risingB (factsL p s) (projT t p).facts.length = true := by rw [hul]; exact facts_rising (rising_inc hp) hs
  refine spec_body cx_ok [] [] (fn := Tryz.f13) (by kernel_rfl) rfl (by kernel_rfl) rfl (by unfold FnOK; kernel_rfl) fun hok => ?_
  refine SpecP.mono (f33_spec t n1 p ht hp _) ?_
  rintro _ _ ⟨rfl, rfl⟩
  refine SpecP.mono (f34f_spec n1 n2 p s hp hs hpl _) ?_
  rintro _ _ ⟨rfl, rfl⟩
  refine SpecP.mono (f20_spec (projT t p) (factsL p s).isEmpty (factsL p s) 20000 TU hfs (by decide) (by decide) _) ?_
  rintro r _ ⟨hr, rfl⟩
  cases hr with
  | many S hn hr hl =>
    refine And.intro (fun h => Bool.noConfusion h) fun _ => ?_
    exact Exists.intro [] ⟨.space S hn hr hl, rfl⟩
  | few S hW hl h0 =>
    cases S with
    | nil => cases h0
    | cons x R =>
    have hx : x = factsL p s := Option.some.inj h0
    subst hx
    refine And.intro (fun _ => ?_) fun h => Bool.noConfusion h
    have hrs : ∀ x ∈ factsL p s :: R, risingB x (projT t p).facts.length = true := fun x hx => by obtain ⟨d, q⟩ := hW.reach x hx; exact way_rising hfs q
    refine SpecP.mono (f21_spec (projT t p) false (factsL p s).isEmpty (factsL p s) R TU hW.nodup hrs hW.closed hl _) ?_
    rintro _ _ ⟨a, ho, rfl, rfl⟩
    refine And.intro (fun h => ?_) fun h => ?_
    · have h : a < 0 := of_decide_eq_true h
      rcases ho with ⟨_, h1⟩ | ⟨h1, _⟩
      · exact Exists.intro [] ⟨.none (factsL p s :: R) hW hl (fun x hx => by obtain ⟨d, q⟩ := hW.reach x hx; exact h1 x d q), rfl⟩
      · omega
    · have h : ¬ a < 0 := of_decide_eq_false h
      rcases ho with ⟨h1, _⟩ | ⟨h1, h2, h3⟩
      · omega
      · exact Exists.intro [] ⟨.ok (factsL p s :: R) hW hl a h1 h2 h3, rfl⟩

end Go.Fw

/- What the reference's functions do: what several patterns say together. -/
namespace Go.Fw
open Go Go.Proofs
set_option maxRecDepth 10000

theorem BestR.det {t : Task} {s : List Int} {l : List (Bool × List Int)} {r r' : LV} (h : BestR t s l r) (h' : BestR t s l r') : r = r' := by
  have yes : ∀ {C : List Int} {p : Bool × List Int}, C.length = l.length → (∀ (i : Nat) c p, C[i]? = some c → l[i]? = some p → SaysR t s p (.tup [.int c, .int 0])) → p ∈ l → ∃ c, SaysR t s p (.tup [.int c, .int 0]) := fun hl hC hp => by
    obtain ⟨i, hi⟩ := List.mem_iff_getElem?.1 hp
    have hlt := (List.getElem?_eq_some_iff.1 hi).1
    exact ⟨_, hC i _ _ (List.getElem?_eq_getElem (by omega)) hi⟩
  cases h with
  | bad h =>
    cases h' with
    | bad => rfl
    | space h' => exact absurd h' h
    | none h' => exact absurd h' h
    | ok h' => exact absurd h' h
  | space h p hp hr =>
    cases h' with
    | bad h' => exact absurd h h'
    | space => rfl
    | none _ _ _ _ hn => exact absurd hr (hn p hp)
    | ok _ C hl hC => obtain ⟨c, hc⟩ := yes hl hC hp; have := hr.det hc; cases this
  | none h p hp hr hn =>
    cases h' with
    | bad h' => exact absurd h h'
    | space _ p' hp' hr' => exact absurd hr' (hn p' hp')
    | none => rfl
    | ok _ C hl hC => obtain ⟨c, hc⟩ := yes hl hC hp; have := hr.det hc; cases this
  | ok h C hl hC =>
    cases h' with
    | bad h' => exact absurd h h'
    | space _ p hp hr => obtain ⟨c, hc⟩ := yes hl hC hp; have := hr.det hc; cases this
    | none _ p hp hr => obtain ⟨c, hc⟩ := yes hl hC hp; have := hr.det hc; cases this
    | ok _ C' hl' hC' =>
      have : C = C' := List.ext_getElem (by omega) fun i h1 h2 => by
        have h3 : i < l.length := by omega
        have := (hC i _ _ (List.getElem?_eq_getElem h1) (List.getElem?_eq_getElem h3)).det (hC' i _ _ (List.getElem?_eq_getElem h2) (List.getElem?_eq_getElem h3))
        injection this with h; injection h with h _; injection h with h; injection h with h; injection h with _ h
      rw [this]

/-- What the reference keeps while it goes over the patterns. -/
structure Rst (t : Task) (s : List Int) (l : List (Bool × List Int)) (C : List Int) (bad : Int) : Prop where
  le : C.length ≤ l.length
  code : bad = 0 ∨ bad = 3 ∨ bad = 4
  sp : bad = 3 → ∃ p ∈ l, SaysR t s p (.tup [.int 0, .int 3])
  no : bad = 4 → ∃ p ∈ l, SaysR t s p (.tup [.int 0, .int 4])
  nosp : bad ≠ 3 → ∀ (i : Nat) p, i < C.length → l[i]? = some p → ¬ SaysR t s p (.tup [.int 0, .int 3])
  yes : bad = 0 → ∀ (i : Nat) c p, C[i]? = some c → l[i]? = some p → SaysR t s p (.tup [.int c, .int 0])
  sum0 : 0 ≤ C.sum
  sum1 : C.sum ≤ 2000000000 * (C.length : Int)
theorem Rst.space {t : Task} {s : List Int} {l : List (Bool × List Int)} {C : List Int} {bad : Int} (h : Rst t s l C bad) (hi : C.length < l.length) (hc : SaysR t s l[C.length] (.tup [.int 0, .int 3])) : Rst t s l (C ++ [0]) 3 := by
  have h0 := h.sum0
  have h1 := h.sum1
  exact ⟨by rw [List.length_append]; exact hi, .inr (.inl rfl), fun _ => ⟨_, List.getElem_mem hi, hc⟩, fun h => by omega, fun h => absurd rfl h, fun h => by omega, by rw [sum_snoc]; omega, by rw [sum_snoc, List.length_append, List.length_singleton, Int.natCast_add]; omega⟩
theorem Rst.none {t : Task} {s : List Int} {l : List (Bool × List Int)} {C : List Int} {bad : Int} (h : Rst t s l C bad) (hi : C.length < l.length) (hc : SaysR t s l[C.length] (.tup [.int 0, .int 4])) : Rst t s l (C ++ [0]) (if bad = 0 then 4 else bad) := by
  have h0 := h.sum0
  have h1 := h.sum1
  have h2 := h.code
  refine ⟨by rw [List.length_append]; exact hi, by split <;> omega, fun h3 => h.sp (by split at h3 <;> omega), fun _ => ⟨_, List.getElem_mem hi, hc⟩, fun h3 => nosp_snoc (h.nosp (by split at h3 <;> omega)) hi hc (fun h => by cases h), fun h3 => by split at h3 <;> omega, by rw [sum_snoc]; omega, by rw [sum_snoc, List.length_append, List.length_singleton, Int.natCast_add]; omega⟩
theorem Rst.ok {t : Task} {s : List Int} {l : List (Bool × List Int)} {C : List Int} {bad c : Int} (h : Rst t s l C bad) (hi : C.length < l.length) (hc : SaysR t s l[C.length] (.tup [.int c, .int 0])) : Rst t s l (C ++ [c]) bad := by
  have hb := hc.cost
  have h0 := h.sum0
  have h1 := h.sum1
  refine ⟨by rw [List.length_append]; exact hi, h.code, h.sp, h.no, fun h3 => nosp_snoc (h.nosp h3) hi hc (fun h => by cases h), fun hn i c' p hg hp => ?_, by rw [sum_snoc]; omega, by rw [sum_snoc, List.length_append, List.length_singleton, Int.natCast_add]; omega⟩
  rw [List.getElem?_append] at hg
  split at hg
  · exact h.yes hn i c' p hg hp
  · rename_i hlt
    obtain ⟨h2, h3⟩ := List.getElem?_eq_some_iff.1 hg
    have : i = C.length := by rw [List.length_singleton] at h2; omega
    subst this
    rw [List.getElem?_eq_getElem hi] at hp
    cases hp
    have : c' = c := by simpa using hg.symm
    rw [this]; exact hc

abbrev envR (n1 : Bool) (l : List (Bool × List Int)) (n2 : Bool) (s : List Int) (a b bad n : Int) : Env :=
  [(1, .t (.sl n1 1 (tLs l))), (2, .ints n2 s), (3, .ptr (.cur 24) 0), (8, .int a), (9, .int b), (10, .int bad), (15, .t (.sl n1 1 (tLs l))), (16, .int (tLs l).length), (17, .int n)]
theorem envR_snoc {n1 : Bool} {l : List (Bool × List Int)} {n2 : Bool} {s : List Int} {bad : Int} (C : List Int) (c : Int) :
    envR n1 l n2 s (C.sum + c) (if c > maxL C then c else maxL C) bad ((C.length : Int) + 1) = envR n1 l n2 s (C ++ [c]).sum (maxL (C ++ [c])) bad ((C ++ [c]).length : Nat) := by
  rw [sum_snoc, maxL_snoc, List.length_append, List.length_singleton, show (if c > maxL C then c else maxL C) = max (maxL C) c by rw [Int.max_def]; split <;> split <;> omega]; rfl
def kqB : Kp := [(4, ([1, 2, 3, 8, 9, 10, 15, 16, 17], [24]))]
theorem f14_spec (t : Task) (n1 n2 : Bool) (l : List (Bool × List Int)) (s : List Int) (hl : l.length ≤ 1000000000) (hg : givenI t s l = 0) (out : List Fr) : SpecP Tryz.prog 14 [.task t, .t (.sl n1 1 (tLs l)), .ints n2 s] out fun r ro => BestR t s l r ∧ ro = [] := by
  refine spec_body cx_ok kqB [] (fn := Tryz.f14) (by kernel_rfl) rfl (by kernel_rfl) rfl (by unfold FnOK; kernel_rfl) fun hok => ?_
  obtain ⟨h2, h3, h4⟩ := given_ok hg
  have TK := task_ok h2
  refine LoopW.mk (List Int × Int) (fun u => Rst t s l u.1 u.2) (fun u => envR n1 l n2 s u.1.sum (maxL u.1) u.2 u.1.length)
    (fun _ => ⟨out, [(24, .box (cellsTask t))]⟩) (fun u => l.length - u.1.length) ([], 0) ⟨Nat.zero_le _, .inl rfl, fun h => by omega, fun h => by omega, fun _ i p h => absurd h (Nat.not_lt_zero _), fun _ i c p h => by simp at h, by simp, by simp⟩ ⟨rfl, rfl⟩ ?_
  rintro ⟨C, bad⟩ B
  have B : Rst t s l C bad := B
  have B0 := B.sum0
  have B1 := B.sum1
  have B2 := B.le
  refine And.intro (fun h5 => ?_) fun h5 => ?_
  · have hi : C.length < l.length := by have h5 : (C.length : Int) < _ := of_decide_eq_true h5; rw [tLs_len] at h5; omega
    obtain ⟨h6, h7⟩ := h4 _ (List.getElem_mem hi)
    refine And.intro (Int.natCast_nonneg _) (Exists.intro _ (And.intro (tLs_get hi) ?_))
    refine SpecP.mono (f13_spec t l[C.length].1 n2 l[C.length].2 s h2 h6 h3 _) ?_
    rintro r _ ⟨hr, rfl⟩
    obtain ⟨a, e, rfl⟩ := optR_pair hr
    generalize hre : LV.tup [.int a, .int e] = r at hr
    have hr0 := hr
    cases hr with
    | space S hn hq hlS =>
      cases hre
      refine And.intro (fun _ => ?_) fun h => Bool.noConfusion h
      refine And.intro (by show -9223372036854775808 ≤ C.sum + 0; omega) (And.intro (by show C.sum + 0 ≤ 9223372036854775807; omega) ?_)
      refine And.intro (by show -9223372036854775808 ≤ (C.length : Int) + 1; omega) (And.intro (by show (C.length : Int) + 1 ≤ 9223372036854775807; omega) ?_)
      exact Exists.intro (C ++ [0], 3) (And.intro (by show l.length - (C ++ [0]).length < l.length - C.length; rw [List.length_append, List.length_singleton]; omega) (And.intro (B.space hi hr0) (And.intro (envR_snoc C 0) rfl)))
    | none S hW hlS hg =>
      cases hre
      refine And.intro (fun h => Bool.noConfusion h) fun _ => ?_
      have B' := B.none hi hr0
      refine And.intro (fun h8 => ?_) fun h8 => ?_
      · have h8 : bad = 0 := by simpa using h8
        rw [if_pos h8] at B'
        refine And.intro (fun _ => ?_) fun h => Bool.noConfusion h
        refine And.intro (by show -9223372036854775808 ≤ C.sum + 0; omega) (And.intro (by show C.sum + 0 ≤ 9223372036854775807; omega) ?_)
        refine And.intro (by show -9223372036854775808 ≤ (C.length : Int) + 1; omega) (And.intro (by show (C.length : Int) + 1 ≤ 9223372036854775807; omega) ?_)
        exact Exists.intro (C ++ [0], 4) (And.intro (by show l.length - (C ++ [0]).length < l.length - C.length; rw [List.length_append, List.length_singleton]; omega) (And.intro B' (And.intro (envR_snoc C 0) rfl)))
      · have h8 : bad ≠ 0 := by simpa using h8
        rw [if_neg h8] at B'
        refine And.intro (by show -9223372036854775808 ≤ C.sum + 0; omega) (And.intro (by show C.sum + 0 ≤ 9223372036854775807; omega) ?_)
        refine And.intro (by show -9223372036854775808 ≤ (C.length : Int) + 1; omega) (And.intro (by show (C.length : Int) + 1 ≤ 9223372036854775807; omega) ?_)
        exact Exists.intro (C ++ [0], bad) (And.intro (by show l.length - (C ++ [0]).length < l.length - C.length; rw [List.length_append, List.length_singleton]; omega) (And.intro B' (And.intro (envR_snoc C 0) rfl)))
    | ok S hW hlS c h0 hb hc =>
      cases hre
      refine And.intro (fun h => Bool.noConfusion h) fun _ => ?_
      have B' := B.ok hi hr0
      refine And.intro (fun h8 => ?_) fun h8 => ?_
      · refine And.intro (fun h => Bool.noConfusion h) fun _ => ?_
        refine And.intro (by show -9223372036854775808 ≤ C.sum + a; omega) (And.intro (by show C.sum + a ≤ 9223372036854775807; omega) ?_)
        refine And.intro (by show -9223372036854775808 ≤ (C.length : Int) + 1; omega) (And.intro (by show (C.length : Int) + 1 ≤ 9223372036854775807; omega) ?_)
        exact Exists.intro (C ++ [a], bad) (And.intro (by show l.length - (C ++ [a]).length < l.length - C.length; rw [List.length_append, List.length_singleton]; omega) (And.intro B' (And.intro (envR_snoc C a) rfl)))
      · refine And.intro (by show -9223372036854775808 ≤ C.sum + a; omega) (And.intro (by show C.sum + a ≤ 9223372036854775807; omega) ?_)
        refine And.intro (by show -9223372036854775808 ≤ (C.length : Int) + 1; omega) (And.intro (by show (C.length : Int) + 1 ≤ 9223372036854775807; omega) ?_)
        exact Exists.intro (C ++ [a], bad) (And.intro (by show l.length - (C ++ [a]).length < l.length - C.length; rw [List.length_append, List.length_singleton]; omega) (And.intro B' (And.intro (envR_snoc C a) rfl)))
  · have hi : C.length = l.length := by have h5 : ¬ (C.length : Int) < _ := of_decide_eq_false h5; rw [tLs_len] at h5; omega
    refine And.intro (fun h6 => ?_) fun h6 => ?_
    · have h6 : bad ≠ 0 := by simpa using h6
      rcases B.code with h | h | h
      · exact absurd h h6
      · obtain ⟨p, hp, hr⟩ := B.sp h
        subst h
        exact Exists.intro [] ⟨.space hg p hp hr, rfl⟩
      · obtain ⟨p, hp, hr⟩ := B.no h
        subst h
        exact Exists.intro [] ⟨.none hg p hp hr (fun p hp => by obtain ⟨j, hj⟩ := List.mem_iff_getElem?.1 hp; exact B.nosp (by decide) j p (by rw [hi]; exact (List.getElem?_eq_some_iff.1 hj).1) hj), rfl⟩
    have h6 : bad = 0 := by simpa using h6
    refine SpecP.mono (f35_spec t n1 l TK hl _) ?_
    rintro _ _ ⟨rfl, rfl⟩
    have hb : BestR t s l (.tup [.int (if addB t l then C.sum else maxL C), .int 0]) := .ok hg C hi (B.yes h6)
    refine And.intro (fun h7 => ?_) fun h7 => ?_
    · rw [if_pos h7] at hb
      exact Exists.intro [] ⟨hb, rfl⟩
    · rw [if_neg (by rw [h7]; exact Bool.noConfusion)] at hb
      exact Exists.intro [] ⟨hb, rfl⟩

end Go.Fw

/- More facts say no less, and all facts are the task: the plain law. -/
namespace Go.Fw
open Go Go.Proofs
set_option maxRecDepth 10000

theorem holds_all {p s : List Int} (hp : p.Pairwise (· < ·)) {l : List Lit} : holdsB (factsL p s) (litsL p l) = true ↔ ∀ x ∈ l, hasB p x.fact = true → (hasB s x.fact != x.neg) = true := by
  constructor
  · intro h x hx hp'
    have := List.all_eq_true.1 h ⟨posI p x.fact, x.neg⟩ (List.mem_map.2 ⟨x, List.mem_filter.2 ⟨hx, hp'⟩, rfl⟩)
    have e : hasB (factsL p s) (posI p x.fact) = hasB s x.fact := facts_has' hp hp'
    simp only [e] at this
    exact this
  · intro h
    refine List.all_eq_true.2 fun x hx => ?_
    obtain ⟨y, hy, rfl⟩ := List.mem_map.1 hx
    obtain ⟨h1, h2⟩ := List.mem_filter.1 hy
    show (hasB (factsL p s) (posI p y.fact) != y.neg) = true
    rw [facts_has' hp h2]
    exact h y h1 h2
theorem holds_sub {p q s : List Int} (hp : p.Pairwise (· < ·)) (hq : q.Pairwise (· < ·)) (hpq : ∀ x ∈ p, x ∈ q) {l : List Lit} (h : holdsB (factsL q s) (litsL q l) = true) : holdsB (factsL p s) (litsL p l) = true :=
  (holds_all hp).2 fun x hx hx' => (holds_all hq).1 h x hx (hasB_mem.2 (hpq _ (hasB_mem.1 hx')))
/-- A way in the projection to more facts is one in that to fewer. -/
theorem way_sub {t : Task} {p q : List Int} (TK : TaskOK t) (hp : risingB p t.facts.length = true) (hq : risingB q t.facts.length = true) (cp : closedB t p = true) (cq : closedB t q = true) (hpq : ∀ x ∈ p, x ∈ q)
    {x y : List Int} {d : Int} (w : Way (projT t q) x d y) : ∀ s, risingB s t.facts.length = true → x = factsL q s → ∃ s', risingB s' t.facts.length = true ∧ y = factsL q s' ∧ Way (projT t p) (factsL p s) d (factsL p s') := by
  have elq : (projT t q).facts.length = q.length := List.length_map ..
  have elp : (projT t p).facts.length = p.length := List.length_map ..
  induction w with
  | nil x => exact fun s hs h => ⟨s, hs, h, .nil _⟩
  | cons h _ ih =>
    intro s hs hx
    obtain ⟨a, ha, heq⟩ := List.mem_map.1 h
    obtain ⟨ha1, ha2⟩ := List.mem_filter.1 ha
    obtain ⟨a0, h0, rfl⟩ := List.mem_map.1 ha1
    subst hx
    cases heq
    have e1 := after_proj hq hs (TK.lit _ h0) (closed_all cq _ h0)
    obtain ⟨s', hs', hy, w'⟩ := ih (afterL t.facts.length s a0.effs) (after_rising ..) (by rw [elq]; exact e1)
    refine ⟨s', hs', hy, .cons (List.mem_map.2 ⟨projA p a0, List.mem_filter.2 ⟨List.mem_map_of_mem h0, holds_sub (rising_inc hp) (rising_inc hq) hpq ha2⟩, ?_⟩) w'⟩
    rw [← after_proj hp hs (TK.lit _ h0) (closed_all cp _ h0), elp]; rfl
/-- What the projection to more facts says is no less. -/
theorem opt_sub {t : Task} {p q s : List Int} (TK : TaskOK t) (hp : risingB p t.facts.length = true) (hq : risingB q t.facts.length = true) (cp : closedB t p = true) (cq : closedB t q = true) (hpq : ∀ x ∈ p, x ∈ q) (hs : risingB s t.facts.length = true) (hn : t.facts.length ≤ 14)
    {r r' : LV} (h : OptR (projT t p) (factsL p s) r) (h' : OptR (projT t q) (factsL q s) r') :
    (r = .tup [.int 0, .int 4] ∧ r' = .tup [.int 0, .int 4]) ∨ (∃ a : Int, r = .tup [.int a, .int 0] ∧ r' = .tup [.int 0, .int 4]) ∨ ∃ a b : Int, a ≤ b ∧ r = .tup [.int a, .int 0] ∧ r' = .tup [.int b, .int 0] := by
  have elq : (projT t q).facts.length = q.length := List.length_map ..
  have elp : (projT t p).facts.length = p.length := List.length_map ..
  have h1 := rising_le hp
  have h2 := rising_le hq
  have key : ∀ s' d, Way (projT t q) (factsL q s) d s' → holdsB s' (projT t q).goal = true → ∃ s'', Way (projT t p) (factsL p s) d s'' ∧ holdsB s'' (projT t p).goal = true := fun s' d w g => by
    obtain ⟨x, _, rfl, w'⟩ := way_sub TK hp hq cp cq hpq w s hs rfl
    exact ⟨_, w', holds_sub (rising_inc hp) (rising_inc hq) hpq g⟩
  rcases h.small (by rw [elp]; exact facts_rising (rising_inc hp) hs) (by omega) with ⟨rfl, n1⟩ | ⟨a, _, _, ha, rfl⟩
  · rcases h'.small (by rw [elq]; exact facts_rising (rising_inc hq) hs) (by omega) with ⟨rfl, _⟩ | ⟨b, _, _, hb, rfl⟩
    · exact .inl ⟨rfl, rfl⟩
    · obtain ⟨x, g, w⟩ := hb.1
      obtain ⟨y, w', g'⟩ := key _ _ w g
      exact absurd ((n1 _ _ w').symm.trans g') Bool.noConfusion
  · rcases h'.small (by rw [elq]; exact facts_rising (rising_inc hq) hs) (by omega) with ⟨rfl, _⟩ | ⟨b, _, _, hb, rfl⟩
    · exact .inr (.inl ⟨a, rfl, rfl⟩)
    · obtain ⟨x, g, w⟩ := hb.1
      obtain ⟨y, w', g'⟩ := key _ _ w g
      exact .inr (.inr ⟨a, b, ha.2 _ _ g' w', rfl, rfl⟩)

/-! ### All facts -/
def wholeL (n : Nat) : List Int := (List.range n).map fun i : Nat => (i : Int)
theorem whole_len (n : Nat) : (wholeL n).length = n := by simp [wholeL]
theorem whole_get {n i : Nat} (h : i < n) : (wholeL n)[i]? = some (i : Int) := by simp [wholeL, h]
theorem whole_mem {n : Nat} {x : Int} : x ∈ wholeL n ↔ 0 ≤ x ∧ x < (n : Int) := by
  simp only [wholeL, List.mem_map, List.mem_range]
  exact ⟨fun ⟨a, h1, h2⟩ => by omega, fun h => ⟨x.toNat, by omega, by omega⟩⟩
theorem whole_rising (n : Nat) : risingB (wholeL n) n = true := by
  refine List.all_eq_true.2 fun i hi => ?_
  rw [List.mem_range, whole_len] at hi
  have e : ∀ k, k < n → at0 (wholeL n) k = (k : Int) := fun k hk => by rw [at0, List.getD_eq_getElem?_getD, whole_get hk]; rfl
  simp only [chkI, e i hi, Bool.and_eq_true, decide_eq_true_eq]
  refine ⟨by omega, ?_⟩
  cases i with
  | zero => simp
  | succ i => rw [e _ (by omega)]; simp; omega
theorem whole_pos {n : Nat} {x : Int} (h0 : 0 ≤ x) (h1 : x < (n : Int)) : posI (wholeL n) x = x := by
  have hb : hasB (wholeL n) x = true := hasB_mem.2 (whole_mem.2 ⟨h0, h1⟩)
  have h2 := posI_in hb
  have h3 := posI_get hb
  rw [whole_len] at h2
  rw [whole_get (by omega)] at h3
  have := Option.some.inj h3
  omega
theorem facts_whole {n : Nat} {s : List Int} (h : ∀ x ∈ s, 0 ≤ x ∧ x < (n : Int)) : factsL (wholeL n) s = s := by
  rw [factsL, List.filter_eq_self.2 fun x hx => hasB_mem.2 (whole_mem.2 (h x hx))]
  exact (List.map_congr_left fun x hx => whole_pos (h x hx).1 (h x hx).2).trans (List.map_id _)
theorem lits_whole {n : Nat} {l : List Lit} (h : ∀ x ∈ l, litIn n x) : litsL (wholeL n) l = l := by
  rw [litsL, List.filter_eq_self.2 fun x hx => hasB_mem.2 (whole_mem.2 (h x hx))]
  exact (List.map_congr_left fun x hx => by rw [whole_pos (h x hx).1 (h x hx).2]; rfl).trans (List.map_id _)
theorem whole_closed {t : Task} (h : isB t = true) : closedB t (wholeL t.facts.length) = true := by
  obtain ⟨_, _, _, _, _, h6, _⟩ := isB_parts.1 h
  refine List.all_eq_true.2 fun a ha => List.all_eq_true.2 fun e he => clE_iff.2 fun _ l hl => hasB_mem.2 (whole_mem.2 ?_)
  have := h6 a ha
  simp only [actB, Bool.and_eq_true, List.all_eq_true] at this
  have := this.2 e he
  simp only [effB, Bool.and_eq_true] at this
  exact cond_in this.1.1 l hl
theorem whole_same {t : Task} (h : isB t = true) : SameT t (projT t (wholeL t.facts.length)) := by
  obtain ⟨_, _, h3, h4, _, h6, _⟩ := isB_parts.1 h
  have TK := task_ok h
  refine ⟨?_, (facts_whole (rising_in h3)).symm, (lits_whole (cond_in h4)).symm, (List.length_map ..).symm, fun i h1 h2 => ?_⟩
  · refine List.ext_getElem (by rw [projT]; simp [whole_len]) fun i h1 h2 => ?_
    have e : (wholeL t.facts.length)[i]'(by rw [whole_len]; exact h1) = (i : Int) := by
      have := whole_get h1; rw [List.getElem?_eq_getElem (by rw [whole_len]; exact h1)] at this; exact Option.some.inj this
    simp only [projT, List.getElem_map, e, factS, Int.toNat_natCast, List.getD_eq_getElem?_getD, List.getElem?_eq_getElem h1]; rfl
  · have hm : t.acts[i] ∈ t.acts := List.getElem_mem h1
    have ha := h6 _ hm
    simp only [actB, Bool.and_eq_true, decide_eq_true_eq, List.all_eq_true] at ha
    have hf : (t.acts[i].effs.filter fun e => hasB (wholeL t.facts.length) e.lit.fact) = t.acts[i].effs := List.filter_eq_self.2 fun e he => hasB_mem.2 (whole_mem.2 (TK.lit _ hm e he))
    have e : (projT t (wholeL t.facts.length)).acts[i] = projA (wholeL t.facts.length) t.acts[i] := by simp only [projT, List.getElem_map]
    rw [e]
    refine ⟨rfl, rfl, (lits_whole (TK.pre _ hm)).symm, by simp only [projA, projEs, hf, List.length_map], fun k h1 h2 => ?_⟩
    have hek : t.acts[i].effs[k] ∈ t.acts[i].effs := List.getElem_mem h1
    have he := ha.2 _ hek
    simp only [effB, Bool.and_eq_true] at he
    have hlk := TK.lit _ hm _ hek
    simp only [projA, projEs, hf, List.getElem_map, projE]
    exact ⟨by rw [whole_pos hlk.1 hlk.2], (lits_whole (cond_in he.1.1)).symm⟩
theorem succ_whole {t : Task} (h : isB t = true) {s : List Int} (hs : risingB s t.facts.length = true) : succ (projT t (wholeL t.facts.length)) s = succ t s := by
  have TK := task_ok h
  have hw := whole_rising t.facts.length
  have hpi := rising_inc hw
  have el : (projT t (wholeL t.facts.length)).facts.length = (wholeL t.facts.length).length := List.length_map ..
  have es := facts_whole (rising_in hs)
  have ep : ∀ a ∈ t.acts, holdsB s (projA (wholeL t.facts.length) a).pre = holdsB s a.pre := fun a ha => by
    show holdsB s (litsL (wholeL t.facts.length) a.pre) = _
    rw [lits_whole (TK.pre _ ha)]
  have ea : ∀ a ∈ t.acts, afterL (wholeL t.facts.length).length s (projA (wholeL t.facts.length) a).effs = afterL t.facts.length s a.effs := fun a ha => by
    have := after_proj hw hs (TK.lit _ ha) (closed_all (whole_closed h) _ ha)
    rw [es, facts_whole (rising_in (after_rising ..))] at this
    exact this
  show succA _ s (t.acts.map (projA _)) = succA _ s t.acts
  have ef : (t.acts.filter ((fun b : Actn => holdsB s b.pre) ∘ projA (wholeL t.facts.length))) = t.acts.filter fun b : Actn => holdsB s b.pre := List.filter_congr fun a ha => ep a ha
  rw [el, succA, succA, List.filter_map, List.map_map, ef]
  exact List.map_congr_left fun a ha => by
    have ha := (List.mem_filter.1 ha).1
    show (_, _) = (_, _)
    rw [ea a ha]; rfl
theorem way_whole {t : Task} (h : isB t = true) {s y : List Int} {d : Int} (hs : risingB s t.facts.length = true) : Way (projT t (wholeL t.facts.length)) s d y ↔ Way t s d y := by
  constructor
  · intro w
    induction w with
    | nil => exact .nil _
    | cons h0 _ ih => rw [succ_whole h hs] at h0; exact .cons h0 (ih (succ_rising _ h0))
  · intro w
    induction w with
    | nil => exact .nil _
    | cons h0 _ ih => exact .cons (by rw [succ_whole h hs]; exact h0) (ih (succ_rising _ h0))
/-- The projection to all facts costs what the task costs. -/
theorem opt_whole {t : Task} (h : isB t = true) {s : List Int} (hs : risingB s t.facts.length = true) (hn : t.facts.length ≤ 14) {r : LV} (hr : OptR (projT t (wholeL t.facts.length)) (factsL (wholeL t.facts.length) s) r) {a : Int} (ha : OptC t s a) :
    (r = .tup [.int 0, .int 4] ∧ a < 0) ∨ (r = .tup [.int a, .int 0] ∧ 0 ≤ a) := by
  have TK := task_ok h
  have el : (projT t (wholeL t.facts.length)).facts.length = t.facts.length := by rw [projT]; simp [whole_len]
  have eg : (projT t (wholeL t.facts.length)).goal = t.goal := lits_whole TK.goal
  rw [facts_whole (rising_in hs)] at hr
  rcases hr.small (by rw [el]; exact hs) (by omega) with ⟨rfl, n1⟩ | ⟨c, h0, _, hc, rfl⟩
  · rcases ha with ⟨h1, _⟩ | ⟨_, _, h2⟩
    · exact .inl ⟨rfl, h1⟩
    · obtain ⟨x, g, w⟩ := h2.1
      have := n1 _ _ ((way_whole h hs).2 w)
      rw [eg] at this
      exact absurd (this.symm.trans g) Bool.noConfusion
  · obtain ⟨x, g, w⟩ := hc.1
    have g : holdsB x t.goal = true := by rw [← eg]; exact g
    rcases ha with ⟨_, h2⟩ | ⟨h1, _, h2⟩
    · exact absurd ((h2 _ _ ((way_whole h hs).1 w)).symm.trans g) Bool.noConfusion
    · obtain ⟨x', g', w'⟩ := h2.1
      have h3 := h2.2 _ _ g ((way_whole h hs).1 w)
      have h4 := hc.2 x' a (by show holdsB x' _ = true; rw [eg]; exact g') ((way_whole h hs).2 w')
      have : c = a := by omega
      subst this
      exact .inr ⟨rfl, h0⟩
/-- Two closed patterns together are one. -/
theorem closed_union {t : Task} {p q m : List Int} (hp : closedB t p = true) (hq : closedB t q = true) (hm : ∀ x, x ∈ m ↔ x ∈ p ∨ x ∈ q) : closedB t m = true := by
  refine List.all_eq_true.2 fun a ha => List.all_eq_true.2 fun e he => clE_iff.2 fun h l hl => ?_
  rcases (hm _).1 (hasB_mem.1 h) with h | h
  · exact hasB_mem.2 ((hm _).2 (.inl (hasB_mem.1 (clE_iff.1 (closed_all hp a ha e he) (hasB_mem.2 h) l hl))))
  · exact hasB_mem.2 ((hm _).2 (.inr (hasB_mem.1 (clE_iff.1 (closed_all hq a ha e he) (hasB_mem.2 h) l hl))))

end Go.Fw

/- The law of costs of patterns. -/
namespace Go.Fw
open Go Go.Proofs
set_option maxRecDepth 10000

theorem fine_zero {t : Task} {s : List Int} (h : fineI t s = 0) : isB t = true ∧ risingB s t.facts.length = true := by
  unfold fineI at h
  split at h
  · rename_i h1
    split at h
    · rename_i h2; exact ⟨h1, h2⟩
    · cases h
  · cases h
theorem given_of {t : Task} {s : List Int} {l : List (Bool × List Int)} (h1 : fineI t s = 0) (h2 : asksI t true l = 0) : givenI t s l = 0 := by rw [givenI, if_pos h1, h2]
theorem asks_one {t : Task} {l : List (Bool × List Int)} (h : asksI t true l = 0) {p : Bool × List Int} (hp : p ∈ l) : asksI t true [p] = 0 := by
  obtain ⟨h1, h2⟩ := asks_ok h
  rw [asksI, if_pos h1, List.any_cons, h2 p hp]; rfl
theorem BestR.bad_eq {t : Task} {s : List Int} {l : List (Bool × List Int)} {r : LV} (h : BestR t s l r) (hg : givenI t s l ≠ 0) : r = .tup [.int 0, .int (givenI t s l)] := by
  cases h with
  | bad => rfl
  | space h => exact absurd h hg
  | none h => exact absurd h hg
  | ok h => exact absurd h hg
theorem bestR_pair {t : Task} {s : List Int} {l : List (Bool × List Int)} {r : LV} (h : BestR t s l r) : ∃ a e : Int, r = .tup [.int a, .int e] := by
  cases h <;> exact ⟨_, _, rfl⟩

def kq3 : Kp := [(4, ([1, 2, 3, 34, 35, 36], [24])), (18, ([1, 2, 3, 9, 10, 81, 82, 83], [24]))]
theorem f3_spec (t : Task) (n1 n2 : Bool) (l : List (Bool × List Int)) (s : List Int) (out : List Fr) : SpecP Tryz.prog 3 [.task t, .t (.sl n1 1 (tLs l)), .ints n2 s] out fun r ro => r = .bool true ∧ ro = [] := by
  refine spec_body cx_ok kq3 [] (fn := Tryz.f3) (by kernel_rfl) rfl (by kernel_rfl) rfl (by unfold FnOK; kernel_rfl) fun hok => ?_
  refine SpecP.mono (f5_spec t 200 _) ?_
  rintro _ _ ⟨b0, rfl, rfl⟩
  refine And.intro (fun _ => ?_) fun _ => ?_
  rotate_left
  · refine SpecP.mono (f6_spec _) ?_
    rintro _ _ ⟨rfl, rfl⟩
    exact And.intro (fun _ => Exists.intro [] (ret_bool rfl rfl)) fun h => Bool.noConfusion h
  refine And.intro (fun _ => ?_) fun h1 => ?_
  · refine SpecP.mono (f6_spec _) ?_
    rintro _ _ ⟨rfl, rfl⟩
    exact And.intro (fun _ => Exists.intro [] (ret_bool rfl rfl)) fun h => Bool.noConfusion h
  have h1 : l.length ≤ 6 := by have h1 : ¬ ((tLs l).length : Int) > 6 := of_decide_eq_false h1; rw [tLs_len] at h1; omega
  refine And.intro (fun _ => ?_) fun h2 => ?_
  · refine SpecP.mono (f6_spec _) ?_
    rintro _ _ ⟨rfl, rfl⟩
    exact And.intro (fun _ => Exists.intro [] (ret_bool rfl rfl)) fun h => Bool.noConfusion h
  refine LoopW.mk Nat (fun i => i ≤ l.length) (fun i => [(1, .t (.sl n1 1 (tLs l))), (2, .ints n2 s), (3, .ptr (.cur 24) 0), (34, .t (.sl n1 1 (tLs l))), (35, .int (tLs l).length), (36, .int i)])
    (fun _ => ⟨out, [(24, .box (cellsTask t))]⟩) (fun i => l.length - i) 0 (Nat.zero_le _) ⟨rfl, rfl⟩ fun i hi0 => ?_
  refine And.intro (fun h6 => ?_) fun h6 => ?_
  · have hi : i < l.length := by have h6 : (i : Int) < _ := of_decide_eq_true h6; rw [tLs_len] at h6; omega
    refine And.intro (Int.natCast_nonneg _) (Exists.intro _ (And.intro (tLs_get hi) ?_))
    refine And.intro (fun h7 => ?_) fun h7 => ?_
    · refine SpecP.mono (f7_spec t l[i].1 l[i].2 _) ?_
      rintro _ _ ⟨rfl, rfl⟩
      refine And.intro (fun h8 => ?_) fun h8 => ?_
      · refine SpecP.mono (f6_spec _) ?_
        rintro _ _ ⟨rfl, rfl⟩
        exact And.intro (fun _ => Exists.intro [] (ret_bool rfl rfl)) fun h => Bool.noConfusion h
      · refine And.intro (by omega) (And.intro (by omega) ?_)
        exact Exists.intro (i + 1) (And.intro (by show l.length - (i + 1) < l.length - i; omega) (And.intro hi (And.intro rfl rfl)))
    · refine And.intro (by omega) (And.intro (by omega) ?_)
      exact Exists.intro (i + 1) (And.intro (by show l.length - (i + 1) < l.length - i; omega) (And.intro hi (And.intro rfl rfl)))
  refine SpecP.mono (f8_spec n1 l _) ?_
  rintro _ _ ⟨b8, rfl, rfl⟩
  refine And.intro (fun _ => ?_) fun _ => ?_
  rotate_left
  · refine SpecP.mono (f6_spec _) ?_
    rintro _ _ ⟨rfl, rfl⟩
    exact And.intro (fun _ => Exists.intro [] (ret_bool rfl rfl)) fun h => Bool.noConfusion h
  refine SpecP.mono (f9_spec t n1 n2 l s (by omega) _) ?_
  rintro r9 _ ⟨hr9, rfl⟩
  have hbad := hr9.bad_eq
  obtain ⟨b, e, rfl⟩ := bestR_pair hr9
  refine SpecP.mono (f10_spec t n2 s _) ?_
  rintro _ _ ⟨rfl, rfl⟩
  refine And.intro (fun h10 => ?_) fun h10 => ?_
  rotate_left
  · have h10 : fineI t s ≠ 0 := by simpa using h10
    have hg : givenI t s l = fineI t s := by rw [givenI, if_neg h10]
    have := hbad (by rw [hg]; exact h10)
    rw [hg] at this
    cases this
    refine And.intro (fun _ => ?_) fun h => absurd h (by simp [h10])
    refine And.intro (fun _ => ?_) fun h => absurd h (by simp)
    refine And.intro (fun _ => ?_) fun h => Bool.noConfusion h
    refine SpecP.mono (f6_spec _) ?_
    rintro _ _ ⟨rfl, rfl⟩
    exact And.intro (fun _ => Exists.intro [] (ret_bool rfl rfl)) fun h => Bool.noConfusion h
  have h10 : fineI t s = 0 := by simpa using h10
  obtain ⟨ht, hs⟩ := fine_zero h10
  refine SpecP.mono (f11_spec t n1 l ht _) ?_
  rintro _ _ ⟨rfl, rfl⟩
  have hga : givenI t s l = asksI t true l := by rw [givenI, if_pos h10]
  refine And.intro (fun h11 => ?_) fun h11 => ?_
  · have h11 : asksI t true l ≠ 0 := by simpa using h11
    have := hbad (by rw [hga]; exact h11)
    rw [hga] at this
    cases this
    refine And.intro (fun _ => ?_) fun h => absurd h (by simp)
    refine And.intro (fun _ => ?_) fun h => Bool.noConfusion h
    refine SpecP.mono (f6_spec _) ?_
    rintro _ _ ⟨rfl, rfl⟩
    exact And.intro (fun _ => Exists.intro [] (ret_bool rfl rfl)) fun h => Bool.noConfusion h
  have h11 : asksI t true l = 0 := by simpa using h11
  have hg : givenI t s l = 0 := by rw [hga, h11]
  refine LoopW.mk Nat (fun i => i ≤ l.length) (fun i => [(1, .t (.sl n1 1 (tLs l))), (2, .ints n2 s), (3, .ptr (.cur 24) 0), (9, .int b), (10, .int e), (81, .t (.sl n1 1 (tLs l))), (82, .int (tLs l).length), (83, .int i)])
    (fun _ => ⟨out, [(24, .box (cellsTask t))]⟩) (fun i => l.length - i) 0 (Nat.zero_le _) ⟨rfl, rfl⟩ fun i hi0 => ?_
  refine And.intro (fun h6 => ?_) fun h6 => ?_
  · have hi : i < l.length := by have h6 : (i : Int) < _ := of_decide_eq_true h6; rw [tLs_len] at h6; omega
    have hg1 := given_of h10 (asks_one h11 (List.getElem_mem hi))
    obtain ⟨_, _, hps⟩ := given_ok hg1
    obtain ⟨hp, _⟩ := hps _ (List.mem_singleton.2 rfl)
    refine And.intro (Int.natCast_nonneg _) (Exists.intro _ (And.intro (tLs_get hi) ?_))
    refine SpecP.mono (f12_spec t l[i].1 n2 l[i].2 s _) ?_
    rintro r1 _ ⟨hr1, rfl⟩
    cases hr1 with
    | bad h => exact absurd hg1 h
    | ok _ _ hr1 =>
    obtain ⟨a1, e1, rfl⟩ := optR_pair hr1
    refine SpecP.mono (f13_spec t l[i].1 n2 l[i].2 s ht hp hs _) ?_
    rintro r2 _ ⟨hr2, rfl⟩
    have hd := hr1.det hr2
    subst hd
    refine And.intro (fun h => absurd h (by simp)) fun _ => ?_
    refine And.intro (fun h => absurd h (by simp)) fun _ => ?_
    refine And.intro (by omega) (And.intro (by omega) ?_)
    exact Exists.intro (i + 1) (And.intro (by show l.length - (i + 1) < l.length - i; omega) (And.intro hi (And.intro rfl rfl)))
  refine SpecP.mono (f14_spec t n1 n2 l s (by omega) hg _) ?_
  rintro r2 _ ⟨hr2, rfl⟩
  have hd := hr9.det hr2
  subst hd
  refine And.intro (fun _ => ?_) fun h => absurd h (by simp)
  refine And.intro (fun _ => ?_) fun h => absurd h (by simp)
  refine SpecP.mono (f6_spec _) ?_
  rintro _ _ ⟨rfl, rfl⟩
  exact And.intro (fun _ => Exists.intro [] (ret_bool rfl rfl)) fun h => Bool.noConfusion h

end Go.Fw

/- The law of more facts. -/
namespace Go.Fw
open Go Go.Proofs
set_option maxRecDepth 10000

theorem opt_tri {t : Task} {p q s : List Int} (ht : isB t = true) (hp : risingB p t.facts.length = true) (hq : risingB q t.facts.length = true) (cp : closedB t p = true) (cq : closedB t q = true) (hpq : ∀ x ∈ p, x ∈ q) (hs : risingB s t.facts.length = true) (hn : t.facts.length ≤ 14)
    {r1 r2 r3 : LV} (h1 : OptR (projT t p) (factsL p s) r1) (h2 : OptR (projT t q) (factsL q s) r2) (h3 : OptR (projT t (wholeL t.facts.length)) (factsL (wholeL t.facts.length) s) r3) :
    (r1 = .tup [.int 0, .int 4] ∧ r2 = .tup [.int 0, .int 4] ∧ r3 = .tup [.int 0, .int 4]) ∨ (∃ a : Int, r1 = .tup [.int a, .int 0] ∧ r2 = .tup [.int 0, .int 4] ∧ r3 = .tup [.int 0, .int 4]) ∨
    (∃ a b : Int, a ≤ b ∧ r1 = .tup [.int a, .int 0] ∧ r2 = .tup [.int b, .int 0] ∧ r3 = .tup [.int 0, .int 4]) ∨ ∃ a b c : Int, a ≤ b ∧ b ≤ c ∧ r1 = .tup [.int a, .int 0] ∧ r2 = .tup [.int b, .int 0] ∧ r3 = .tup [.int c, .int 0] := by
  have TK := task_ok ht
  have hw := opt_sub TK hq (whole_rising _) cq (whole_closed ht) (fun x hx => whole_mem.2 (rising_in hq x hx)) hs hn h2 h3
  rcases opt_sub TK hp hq cp cq hpq hs hn h1 h2 with ⟨rfl, rfl⟩ | ⟨a, rfl, rfl⟩ | ⟨a, b, hab, rfl, rfl⟩
  · rcases hw with ⟨_, rfl⟩ | ⟨a, h, _⟩ | ⟨a, b, _, h, _⟩
    · exact .inl ⟨rfl, rfl, rfl⟩
    · cases h
    · cases h
  · rcases hw with ⟨_, rfl⟩ | ⟨a, h, _⟩ | ⟨a, b, _, h, _⟩
    · exact .inr (.inl ⟨a, rfl, rfl, rfl⟩)
    · cases h
    · cases h
  · rcases hw with ⟨h, _⟩ | ⟨a', h, rfl⟩ | ⟨a', c, hc, h, rfl⟩
    · cases h
    · exact .inr (.inr (.inl ⟨a, b, hab, rfl, rfl, rfl⟩))
    · cases h
      exact .inr (.inr (.inr ⟨a, b, c, hab, hc, rfl, rfl, rfl⟩))

/-- The facts of both patterns, as far as they have been gone through. -/
def bothB (n : Nat) (m p : List Int) (i : Nat) : List Bool := (List.range n).map fun f : Nat => hasB m (f : Int) || (decide (f < i) && hasB p (f : Int))
theorem both_len (n : Nat) (m p : List Int) (i : Nat) : (bothB n m p i).length = n := by simp [bothB]
theorem both_get {n i f : Nat} {m p : List Int} (hf : f < n) : (bothB n m p i)[f]? = some (hasB m (f : Int) || (decide (f < i) && hasB p (f : Int))) := by simp [bothB, hf]
theorem both_zero {n : Nat} {m p : List Int} (hm : risingB m n = true) : bitsL n m = bothB n m p 0 := by
  refine List.ext_getElem? fun f => ?_
  by_cases hf : f < n
  · rw [both_get hf, show decide (f < 0) = false from rfl, Bool.false_and, Bool.or_false]
    have := bits_get (rising_in hm) hf
    rw [List.getD_eq_getElem?_getD, List.getElem?_eq_getElem (by rw [bitsL_length]; exact hf)] at this
    rw [List.getElem?_eq_getElem (by rw [bitsL_length]; exact hf)]
    exact congrArg some this
  · rw [List.getElem?_eq_none (by rw [bitsL_length]; omega), List.getElem?_eq_none (by rw [both_len]; omega)]
theorem both_step {n i : Nat} {m p : List Int} (hi : i < n) (v : Bool) (hv : v = (hasB m (i : Int) || hasB p (i : Int))) : (bothB n m p i).set i v = bothB n m p (i + 1) := by
  refine List.ext_getElem? fun f => ?_
  rw [List.getElem?_set, both_len]
  by_cases hf : f < n
  · rw [both_get hf, both_get hf]
    by_cases hif : i = f
    · subst hif
      rw [if_pos rfl, if_pos hi, hv, show decide (i < i + 1) = true by simp, Bool.true_and]
    · rw [if_neg hif, show decide (f < i + 1) = decide (f < i) by simp; omega]
  · rw [if_neg (by omega), List.getElem?_eq_none (by rw [both_len]; omega), List.getElem?_eq_none (by rw [both_len]; omega)]
theorem both_has {n : Nat} {m p : List Int} (hm : risingB m n = true) (hp : risingB p n = true) (x : Int) : x ∈ listL (bothB n m p n) ↔ x ∈ p ∨ x ∈ m := by
  constructor
  · intro h
    have hi := listL_in _ x h
    rw [both_len] at hi
    obtain ⟨f, rfl⟩ : ∃ f : Nat, x = (f : Int) := ⟨x.toNat, by omega⟩
    have h2 := hasB_mem.2 h
    rw [hasB_listL, List.getD_eq_getElem?_getD, both_get (by omega), Option.getD_some, Bool.or_eq_true, Bool.and_eq_true] at h2
    rcases h2 with h2 | ⟨_, h2⟩
    · exact .inr (hasB_mem.1 h2)
    · exact .inl (hasB_mem.1 h2)
  · intro h
    have hi : 0 ≤ x ∧ x < (n : Int) := by rcases h with h | h; exact rising_in hp x h; exact rising_in hm x h
    obtain ⟨f, rfl⟩ : ∃ f : Nat, x = (f : Int) := ⟨x.toNat, by omega⟩
    have hf : f < n := by omega
    refine hasB_mem.1 ?_
    rw [hasB_listL, List.getD_eq_getElem?_getD, both_get hf, Option.getD_some, Bool.or_eq_true, Bool.and_eq_true]
    rcases h with h | h
    · exact .inr ⟨decide_eq_true hf, hasB_mem.2 h⟩
    · exact .inl (hasB_mem.2 h)
theorem both_rising (n : Nat) (m p : List Int) (i : Nat) : risingB (listL (bothB n m p i)) n = true := rising_of (listL_inc _) fun x hx => by have := listL_in _ x hx; rwa [both_len] at this

def kq4 : Kp := [(6, ([1, 3, 4, 9, 10, 57, 58], [32, 376, 432]))]
def oq4 : Od := [(12, [(0, .pure), (1, .pure), (3, .pure), (2, .eff), (4, .eff), (5, .pure), (6, .pure), (7, .pure), (8, .pure), (9, .pure)])]
/-- The same; our own rows are given away at calls of Task. -/
def cxf : Ctx := { cx with frz := [(18, 1)] }
theorem cxf_ok : cxf.OK Tryz.prog := ⟨cx_ok.mixed, cx_ok.tys, cx_ok.eqs, cx_ok.exts, cx_ok.srt⟩
set_option maxHeartbeats 2000000 in
theorem f4_spec (t : Task) (n1 n2 n3 : Bool) (p m s : List Int) (out : List Fr) : SpecP Tryz.prog 4 [.task t, .ints n1 p, .ints n2 m, .ints n3 s] out fun r ro => r = .bool true ∧ ro = [] := by
  refine spec_body cxf_ok kq4 oq4 (fn := Tryz.f4) (by kernel_rfl) rfl (by kernel_rfl) rfl (by unfold FnOK; kernel_rfl) fun hok => ?_
  refine SpecP.mono (f5_spec t 200 _) ?_
  rintro _ _ ⟨b0, rfl, rfl⟩
  refine And.intro (fun _ => ?_) fun _ => ?_
  rotate_left
  · refine SpecP.mono (f6_spec _) ?_
    rintro _ _ ⟨rfl, rfl⟩
    exact And.intro (fun _ => Exists.intro [] (ret_bool rfl rfl)) fun h => Bool.noConfusion h
  refine And.intro (fun _ => ?_) fun h1 => ?_
  · refine SpecP.mono (f6_spec _) ?_
    rintro _ _ ⟨rfl, rfl⟩
    exact And.intro (fun _ => Exists.intro [] (ret_bool rfl rfl)) fun h => Bool.noConfusion h
  have hfl : (t.facts.map tS).length = t.facts.length := List.length_map ..
  have h1 : t.facts.length ≤ 8 := by have h1 : ¬ ((t.facts.map tS).length : Int) > 8 := of_decide_eq_false h1; omega
  refine SpecP.mono (f10_spec t n3 s _) ?_
  rintro _ _ ⟨rfl, rfl⟩
  refine And.intro (fun _ => ?_) fun h10 => ?_
  · refine SpecP.mono (f6_spec _) ?_
    rintro _ _ ⟨rfl, rfl⟩
    exact And.intro (fun _ => Exists.intro [] (ret_bool rfl rfl)) fun h => Bool.noConfusion h
  have h10 : fineI t s = 0 := by simpa using h10
  obtain ⟨ht, hs⟩ := fine_zero h10
  have TK := task_ok ht
  refine Exists.intro (tLs [(n1, p), (n2, m)]) (And.intro rfl (And.intro (Nat.le_of_ble_eq_true rfl) ?_))
  refine SpecP.mono (f11_spec t false [(n1, p), (n2, m)] ht _) ?_
  rintro _ _ ⟨rfl, rfl⟩
  refine And.intro trivial (And.intro trivial ?_)
  refine And.intro (fun _ => ?_) fun h11 => ?_
  · refine SpecP.mono (f6_spec _) ?_
    rintro _ _ ⟨rfl, rfl⟩
    exact And.intro (fun _ => Exists.intro [] (ret_bool rfl rfl)) fun h => Bool.noConfusion h
  have h11 : asksI t true [(n1, p), (n2, m)] = 0 := by simpa using h11
  have hgp := given_of h10 (asks_one h11 (p := (n1, p)) (by simp))
  have hgm := given_of h10 (asks_one h11 (p := (n2, m)) (by simp))
  obtain ⟨_, _, hps⟩ := given_ok hgp
  obtain ⟨hp, cp⟩ := hps _ (List.mem_singleton.2 rfl)
  obtain ⟨_, _, hms⟩ := given_ok hgm
  obtain ⟨hm, cm⟩ := hms _ (List.mem_singleton.2 rfl)
  simp only at hp cp hm cm
  refine SpecP.mono (f15_spec (t.facts.map tS).length n2 m (by omega) (by rw [hfl]; exact rising_in hm) _) ?_
  rintro _ _ ⟨rfl, rfl⟩
  have hb : ([] ++ List.take (t.facts.map tS).length (List.drop 0 ((bitsL (t.facts.map tS).length m).map tB))) = (bothB t.facts.length m p 0).map tB := by
    rw [hfl, both_zero (p := p) hm, ← whole_row (both_len ..)]; rfl
  have hbl : ([] ++ List.take (t.facts.map tS).length (List.drop 0 ((bitsL (t.facts.map tS).length m).map tB))).length = t.facts.length := by rw [hb, List.length_map, both_len]
  have hE : ([(1, .ints n1 p), (3, .ints n3 s), (4, .ptr (.cur 32) 0), (9, .osl (.cur 376) 1 0 ([] ++ List.take (t.facts.map tS).length (List.drop 0 ((bitsL (t.facts.map tS).length m).map tB))).length), (10, .osl (.cur 432) 1 0 0), (57, .int (t.facts.map tS).length), (58, .int 0)] : Env) =
      [(1, .ints n1 p), (3, .ints n3 s), (4, .ptr (.cur 32) 0), (9, .osl (.cur 376) 1 0 t.facts.length), (10, .osl (.cur 432) 1 0 0), (57, .int (t.facts.map tS).length), (58, .int 0)] := by rw [hbl]
  have hS : (⟨out, [(32, .box (cellsTask t)), (376, .row 4 1 ([] ++ List.take (t.facts.map tS).length (List.drop 0 ((bitsL (t.facts.map tS).length m).map tB)))), (432, .row 3 1 [])]⟩ : St) = ⟨out, [(32, .box (cellsTask t)), (376, .row 4 1 ((bothB t.facts.length m p 0).map tB)), (432, .row 3 1 [])]⟩ := by rw [hb]
  refine And.intro (by rw [List.length_map (f := tB), bitsL_length]; omega) (And.intro rfl (And.intro (by show _ * 1 ≤ _; rw [hbl]; omega) (And.intro (by rw [hbl]; omega) ?_)))
  refine LoopW.mk Nat (fun i => i ≤ t.facts.length) (fun i => [(1, .ints n1 p), (3, .ints n3 s), (4, .ptr (.cur 32) 0), (9, .osl (.cur 376) 1 0 t.facts.length), (10, .osl (.cur 432) 1 0 i), (57, .int (t.facts.map tS).length), (58, .int i)])
    (fun i => ⟨out, [(32, .box (cellsTask t)), (376, .row 4 1 ((bothB t.facts.length m p i).map tB)), (432, .row 3 1 ((wholeL i).map tI))]⟩) (fun i => t.facts.length - i) 0 (Nat.zero_le _) ⟨Eq.trans rfl hE, Eq.trans rfl hS⟩ fun i hi0 => ?_
  refine And.intro (fun h2 => ?_) fun h2 => ?_
  · have hi : i < t.facts.length := by have h2 : (i : Int) < _ := of_decide_eq_true h2; omega
    have hg : ((bothB t.facts.length m p i).map tB)[0 + ((i : Nat) : Int).toNat]? = some (tB (hasB m (i : Int))) := by
      rw [Nat.zero_add, Int.toNat_natCast, List.getElem?_map, both_get hi, show decide (i < i) = false by simp, Bool.false_and, Bool.or_false]; rfl
    have hset : ∀ v : Bool, v = (hasB m (i : Int) || hasB p (i : Int)) → ((bothB t.facts.length m p i).map tB).set (0 + ((i : Nat) : Int).toNat) (tB v) = (bothB t.facts.length m p (i + 1)).map tB := fun v hv => by
      rw [Nat.zero_add, Int.toNat_natCast, map_set', both_step hi v hv]
    have hw : (wholeL i).map tI ++ [tI (i : Int)] = (wholeL (i + 1)).map tI := by rw [wholeL, wholeL, List.range_succ]; simp
    have hwl : ((wholeL i).map tI ++ [tI (i : Int)]).length = i + 1 := by rw [hw, List.length_map, whole_len]
    have hSt : ∀ v : Bool, v = (hasB m (i : Int) || hasB p (i : Int)) → (⟨out, [(32, .box (cellsTask t)), (376, .row 4 1 (((bothB t.facts.length m p i).map tB).set (0 + ((i : Nat) : Int).toNat) (tB v))), (432, .row 3 1 ((wholeL i).map tI ++ [tI (i : Int)]))]⟩ : St) =
        ⟨out, [(32, .box (cellsTask t)), (376, .row 4 1 ((bothB t.facts.length m p (i + 1)).map tB)), (432, .row 3 1 ((wholeL (i + 1)).map tI))]⟩ := fun v hv => by rw [hset v hv, hw]
    have hEt : ([(1, .ints n1 p), (3, .ints n3 s), (4, .ptr (.cur 32) 0), (9, .osl (.cur 376) 1 0 t.facts.length), (10, .osl (.cur 432) 1 0 ((wholeL i).map tI ++ [tI (i : Int)]).length), (57, .int (t.facts.map tS).length), (58, .int ((i : Int) + 1))] : Env) =
        [(1, .ints n1 p), (3, .ints n3 s), (4, .ptr (.cur 32) 0), (9, .osl (.cur 376) 1 0 t.facts.length), (10, .osl (.cur 432) 1 0 (i + 1)), (57, .int (t.facts.map tS).length), (58, .int ((i + 1 : Nat) : Int))] := by rw [hwl]; rfl
    refine And.intro (Int.natCast_nonneg _) (And.intro (Int.ofNat_lt.2 hi) (Exists.intro _ (And.intro hg ?_)))
    refine And.intro (fun h3 => ?_) fun h3 => ?_
    · have h3 : hasB m (i : Int) = true := h3
      refine And.intro (Int.natCast_nonneg _) (And.intro (Int.ofNat_lt.2 hi) (Exists.intro _ (And.intro hg (And.intro (Nat.le_refl 1) ?_))))
      refine And.intro (Nat.le_refl 1) (And.intro (by rw [List.length_map, whole_len]) (And.intro (by show ((wholeL i).map tI ++ [tI (i : Int)]).length * 8 ≤ _; rw [hwl]; omega) (And.intro (by show ((wholeL i).map tI ++ [tI (i : Int)]).length ≤ _; rw [hwl]; omega) ?_)))
      refine And.intro (by omega) (And.intro (by omega) ?_)
      exact Exists.intro (i + 1) (And.intro (by show t.facts.length - (i + 1) < t.facts.length - i; omega) (And.intro hi (And.intro (Eq.trans rfl hEt) (Eq.trans rfl (hSt true (by rw [h3]; rfl))))))
    · have h3 : hasB m (i : Int) = false := h3
      refine SpecP.mono (f16_spec n1 p i _) ?_
      rintro _ _ ⟨rfl, rfl⟩
      refine And.intro (fun h4 => ?_) fun h4 => ?_
      · have h4 : hasB p (i : Int) = true := h4
        refine And.intro (Int.natCast_nonneg _) (And.intro (Int.ofNat_lt.2 hi) (Exists.intro _ (And.intro hg (And.intro (Nat.le_refl 1) ?_))))
        refine And.intro (Nat.le_refl 1) (And.intro (by rw [List.length_map, whole_len]) (And.intro (by show ((wholeL i).map tI ++ [tI (i : Int)]).length * 8 ≤ _; rw [hwl]; omega) (And.intro (by show ((wholeL i).map tI ++ [tI (i : Int)]).length ≤ _; rw [hwl]; omega) ?_)))
        refine And.intro (by omega) (And.intro (by omega) ?_)
        exact Exists.intro (i + 1) (And.intro (by show t.facts.length - (i + 1) < t.facts.length - i; omega) (And.intro hi (And.intro (Eq.trans rfl hEt) (Eq.trans rfl (hSt true (by rw [h3, h4]; rfl))))))
      · have h4 : hasB p (i : Int) = false := h4
        refine And.intro (Int.natCast_nonneg _) (And.intro (Int.ofNat_lt.2 hi) (Exists.intro _ (And.intro hg (And.intro (Nat.le_refl 1) ?_))))
        refine And.intro (Nat.le_refl 1) (And.intro (by rw [List.length_map, whole_len]) (And.intro (by show ((wholeL i).map tI ++ [tI (i : Int)]).length * 8 ≤ _; rw [hwl]; omega) (And.intro (by show ((wholeL i).map tI ++ [tI (i : Int)]).length ≤ _; rw [hwl]; omega) ?_)))
        refine And.intro (by omega) (And.intro (by omega) ?_)
        exact Exists.intro (i + 1) (And.intro (by show t.facts.length - (i + 1) < t.facts.length - i; omega) (And.intro hi (And.intro (Eq.trans rfl hEt) (Eq.trans rfl (hSt false (by rw [h3, h4]; rfl))))))
  have hi : i = t.facts.length := by have h2 : ¬ (i : Int) < _ := of_decide_eq_false h2; omega
  subst hi
  refine SpecP.mono (f12_spec t n1 n3 p s _) ?_
  rintro r1 _ ⟨hr1, rfl⟩
  cases hr1 with
  | bad h => exact absurd hgp h
  | ok _ _ hr1 =>
  obtain ⟨a1, e1, rfl⟩ := optR_pair hr1
  refine Exists.intro _ (And.intro (whole_row (both_len ..)) (And.intro (by rw [List.length_map, both_len]; omega) ?_))
  have m17 := f17_spec false (bothB t.facts.length m p t.facts.length) (by rw [both_len]; omega)
  have hq := both_rising t.facts.length m p t.facts.length
  have hqm := both_has hm hp
  have cq := closed_union cp cm hqm
  have hgq : ∀ b : Bool, givenI t s [(b, listL (bothB t.facts.length m p t.facts.length))] = 0 := fun b => given_of h10 (by rw [asksI, if_pos ht, List.any_cons, fineB, hq, cq]; rfl)
  generalize listL (bothB t.facts.length m p t.facts.length) = q at *
  refine SpecP.mono (m17 _) ?_
  rintro _ _ ⟨rfl, rfl⟩
  have m12 := f12_spec t false n3 q s
  have m12n : q = [] → ∀ out, SpecP Tryz.prog 12 [.task t, .t (.sl true 0 []), .ints n3 s] out fun r ro => CostR t true q s r ∧ ro = [] := fun h out => SpecP.conv (conv_second fun β RO w v hv => by rw [h]; exact nil_sz _ _ _ _ hv) (f12_spec t true n3 q s out)
  cases q
  case' nil =>
    let L : List Int := []
    refine And.intro trivial (And.intro trivial (And.intro ⟨rfl, rfl, rfl⟩ ?_))
    refine SpecP.mono (m12n rfl _) ?_
  case' cons x0 r0 =>
    let L : List Int := x0 :: r0
    refine And.intro trivial (And.intro ⟨flat_ints (b := x0 :: r0), trivial⟩ (And.intro ⟨rfl, rfl, rfl⟩ ?_))
    refine Exists.intro _ (And.intro take_all (And.intro (Nat.le_of_eq (Nat.zero_add _)) ?_))
    refine SpecP.mono (m12 _) ?_
  all_goals
    have hq : risingB L t.facts.length = true := hq
    have hqm : ∀ x, x ∈ L ↔ x ∈ p ∨ x ∈ m := hqm
    have cq : closedB t L = true := cq
    rintro r2 _ ⟨hr2, rfl⟩
    cases hr2 with
    | bad h => exact absurd (hgq _) h
    | ok _ _ hr2 =>
    have hr2 : OptR (projT t L) (factsL L s) r2 := hr2
    obtain ⟨a2, e2, rfl⟩ := optR_pair hr2
    first
      | refine And.intro ⟨rfl, rfl, rfl⟩ ?_
      | refine And.intro (by repeat' constructor) (And.intro trivial (And.intro ⟨rfl, rfl, rfl⟩ ?_))
    have hgw : ∀ b : Bool, givenI t s [(b, wholeL t.facts.length)] = 0 := fun b => given_of h10 (by rw [asksI, if_pos ht, List.any_cons, fineB, whole_rising, whole_closed ht]; rfl)
    have haw : ∀ b : Bool, asksI t true [(b, wholeL t.facts.length)] = 0 := fun b => by rw [asksI, if_pos ht, List.any_cons, fineB, whole_rising, whole_closed ht]; rfl
    have hwr : (wholeL t.facts.length).map tI = (((wholeL t.facts.length).map tI).drop 0).take t.facts.length := by rw [List.drop_zero, List.take_of_length_le (by rw [List.length_map, whole_len]; omega)]
    refine Exists.intro _ (And.intro hwr (And.intro (by rw [List.length_map, whole_len]; omega) ?_))
    refine SpecP.mono (f12_spec t false n3 (wholeL t.facts.length) s _) ?_
    rintro r3 _ ⟨hr3, rfl⟩
    cases hr3 with
    | bad h => exact absurd (hgw _) h
    | ok _ _ hr3 =>
    obtain ⟨a3, e3, rfl⟩ := optR_pair hr3
    refine And.intro (by repeat' constructor) (And.intro trivial ?_)
    have hwl : 0 + t.facts.length ≤ ((wholeL t.facts.length).map tI).length := by rw [List.length_map, whole_len]; omega
    repeat refine Exists.intro _ (And.intro hwr (And.intro hwl ?_))
    refine SpecP.mono (f18_spec t false (wholeL t.facts.length) _) ?_
    rintro r4 _ ⟨hr4, rfl⟩
    cases hr4 with
    | bad h => exact absurd (haw _) h
    | ok _ =>
    have m19 := f19_spec t (projT t (wholeL t.facts.length)) (whole_same ht)
    have m20 := f20_spec t n3 s 20000 TK hs (by decide) (by decide)
    have hpq : ∀ x ∈ p, x ∈ L := fun x hx => (hqm x).2 (.inl hx)
    have fin : ∀ {e3 a3 a : Int}, OptR (projT t (wholeL t.facts.length)) (factsL (wholeL t.facts.length) s) (.tup [.int a3, .int e3]) → OptC t s a → (e3 = 4 ∧ a < 0) ∨ (e3 = 0 ∧ a3 = a) := fun hr ha => by
      rcases opt_whole ht hs (by omega) hr ha with ⟨h, h2⟩ | ⟨h, h2⟩
      · cases h; exact .inl ⟨rfl, h2⟩
      · cases h; exact .inr ⟨rfl, rfl⟩
    have tri := opt_tri ht hp hq cp cq hpq hs (by omega) hr1 hr2 hr3
    rcases tri with ⟨h1, h2, h3⟩ | ⟨a, h1, h2, h3⟩ | ⟨a, b, hab, h1, h2, h3⟩ | ⟨a, b, c, hab, hbc, h1, h2, h3⟩
    all_goals
      cases h1
      cases h2
      cases h3
      repeat' first
        | refine And.intro (fun _ => ?_) fun h => Bool.noConfusion h
        | refine And.intro (fun h => Bool.noConfusion h) fun _ => ?_
        | refine And.intro (fun h => absurd (of_decide_eq_true h) (by omega)) fun _ => ?_
        | (refine SpecP.mono (m19 _) ?_; rintro _ _ ⟨rfl, rfl⟩)
      refine SpecP.mono (m20 _) ?_
      rintro r _ ⟨hr, rfl⟩
      cases hr with
      | many S hn hr hl =>
        have := rising_many hn fun x hx => by obtain ⟨d, w⟩ := hr x hx; exact way_rising hs w
        have h2 := Nat.pow_le_pow_right (show 0 < 2 by decide) h1
        have : 2 ^ 8 = 256 := rfl
        omega
      | few S hW hl h0 =>
      cases S with
      | nil => cases h0
      | cons x R =>
      have hx : x = s := Option.some.inj h0
      subst hx
      have hrs : ∀ y ∈ x :: R, risingB y t.facts.length = true := fun y hy => by obtain ⟨d, w⟩ := hW.reach y hy; exact way_rising hs w
      refine And.intro (fun _ => ?_) fun h => Bool.noConfusion h
      refine SpecP.mono (f21_spec t false n3 x R TK hW.nodup hrs hW.closed hl _) ?_
      rintro _ _ ⟨a, ho, rfl, rfl⟩
      have hf := fin hr3 ho
      rcases hf with ⟨h, h4⟩ | ⟨h, h4⟩
      all_goals first
        | exact absurd h (by decide)
        | (have h4' := h4
           clear h
           try subst h4
           repeat' first
            | refine And.intro (fun _ => ?_) fun h => Bool.noConfusion h
            | refine And.intro (fun h => Bool.noConfusion h) fun _ => ?_
            | exact And.intro (fun _ => Exists.intro [] (ret_bool rfl rfl)) fun h => Bool.noConfusion h
            | refine And.intro (fun _ => ?_) fun h => absurd h4' (of_decide_eq_false h)
            | refine And.intro (fun _ => ?_) fun h => Bool.noConfusion (h.symm.trans (beq_self_eq_true _))
            | (refine SpecP.mono (f6_spec _) ?_; rintro _ _ ⟨rfl, rfl⟩)
            | exact Exists.intro [] (ret_bool rfl rfl))

end Go.Fw

/- The row: arguments that can be read are closed data; a contract of a law gives its row. -/
namespace Go.Fw
open Go Go.Proofs Go.ChangeShapes Go.WideShapes Go.ChangeAt Go.RowKit

abbrev oldB (w : World) : Nat → Prop := fun b => b < w.heap.size
def Rd (w : World) (cs : List Value) (ts : List T) : Prop := cs.length = ts.length ∧ ∀ (i : Nat) (x : T) (v : Value), ts[i]? = some x → cs[i]? = some v → VT (oldB w) w x v

section
variable {C : Ctx} {P : Program} (hC : C.OK P) {H : Type} {enc : TypeId × Value → H} {w : World} {spare : Nat → Bool} {held : Bool}
include hC

theorem cellsOf_ty {t : Nat} {i : TI} (h : C.ty t = some i) : P.cellsOf t = i.size := by
  obtain ⟨j, z, h1, h2, _⟩ := (hC.ty h).info
  simp [Program.cellsOf, h1, h2]

theorem und_ty {t : Nat} {i : TI} (h : C.ty t = some i) : ∃ d, P.underlying t = some d ∧ descOf d = i.d := (hC.ty h).underlying

omit hC in
theorem Rd.one {v : Value} {x : T} (h : VT (oldB w) w x v) : Rd w [v] [x] := ⟨rfl, fun i y u hy hu => by
  cases i with
  | zero => simp at hy hu; subst hy; subst hu; exact h
  | succ i => simp at hy⟩

theorem rd_int {t : Nat} {k : IntKind} {s b z} (ht : C.ty t = some ⟨.int k, s, b, z⟩) {fuel : Nat} {cs : List Value} {x} (h : DataW.trod enc P w 0 spare held fuel t cs = some x) : ∃ n : Int, Rd w cs [.v (.int k n)] := by
  obtain ⟨d, h1, h2⟩ := und_ty hC ht
  cases d <;> simp [descOf] at h2
  subst h2
  obtain ⟨n, rfl, _⟩ := DataW.trod_int h1 h
  exact ⟨n, .one (.v _ rfl)⟩
theorem rd_bool {t : Nat} {s b z} (ht : C.ty t = some ⟨.bool, s, b, z⟩) {fuel : Nat} {cs : List Value} {x} (h : DataW.trod enc P w 0 spare held fuel t cs = some x) : ∃ n : Bool, Rd w cs [.v (.bool n)] := by
  obtain ⟨d, h1, h2⟩ := und_ty hC ht
  cases d <;> simp [descOf] at h2
  obtain ⟨n, rfl, _⟩ := DataW.trod_bool h1 h
  exact ⟨n, .one (.v _ rfl)⟩
theorem rd_str {t : Nat} {s b z} (ht : C.ty t = some ⟨.str, s, b, z⟩) {fuel : Nat} {cs : List Value} {x} (h : DataW.trod enc P w 0 spare held fuel t cs = some x) : ∃ n : ByteArray, Rd w cs [.v (.string n)] := by
  obtain ⟨d, h1, h2⟩ := und_ty hC ht
  cases d <;> simp [descOf] at h2
  obtain ⟨n, rfl, _⟩ := DataW.trod_string h1 h
  exact ⟨n, .one (.v _ rfl)⟩
theorem rd_struct {t : Nat} {fs s b z} (ht : C.ty t = some ⟨.struct fs, s, b, z⟩) {fuel : Nat} {cs : List Value} {x} (h : DataW.trod enc P w 0 spare held fuel t cs = some x) :
    cs.length = s ∧ ∀ off ft ti, (off, ft) ∈ fs → C.ty ft = some ti → ∃ n y, DataW.trod enc P w 0 spare held n ft ((cs.drop off).take ti.size) = some y := by
  obtain ⟨d, h1, h2⟩ := und_ty hC ht
  cases d <;> simp [descOf] at h2
  rename_i fl
  obtain ⟨xs, n, _, rfl, hl, hlen, hf⟩ := DataW.trod_struct h1 h
  refine ⟨by rw [hl, cellsOf_ty hC ht], fun off ft ti hm hti => ?_⟩
  have : (off, ft) ∈ fl.toList.map fun f => (f.offset, f.type) := by rw [← h2] at hm; simpa using hm
  obtain ⟨f, hfm, hfe⟩ := List.mem_map.1 this
  simp only [Prod.mk.injEq] at hfe
  obtain ⟨i, hi, hie⟩ := List.getElem_of_mem hfm
  have hfi : fl[i]? = some f := by rw [← hie]; simp at hi ⊢
  have hx := hf i f hfi
  have hil : i < xs.length := by rw [hlen]; simpa using hi
  rw [List.getElem?_eq_getElem hil, hfe.1, hfe.2, cellsOf_ty hC hti] at hx
  exact ⟨n, _, hx⟩

omit hC in
theorem build_list {α : Type} {p : Nat → α → Prop} : ∀ n : Nat, (∀ i, i < n → ∃ a, p i a) → ∃ l : List α, l.length = n ∧ ∀ i a, l[i]? = some a → p i a
  | 0, _ => ⟨[], rfl, fun i a h => by simp at h⟩
  | n + 1, h => by
    obtain ⟨l, h1, h2⟩ := build_list n fun i hi => h i (by omega)
    obtain ⟨a, ha⟩ := h n (by omega)
    refine ⟨l ++ [a], by simp [h1], fun i b hb => ?_⟩
    by_cases hi : i < n
    · rw [List.getElem?_append_left (by omega)] at hb; exact h2 i b hb
    · have : i = n := by have := (List.getElem?_eq_some_iff.1 hb).1; simp at this; omega
      subst this
      rw [List.getElem?_append_right (by omega), h1, Nat.sub_self] at hb
      simp at hb; subst hb; exact ha

theorem rd_slice {t e : Nat} {s b z} {ti : TI} (ht : C.ty t = some ⟨.slice e, s, b, z⟩) (hti : C.ty e = some ti) (h0 : 0 < ti.size) {α : Type} (f : α → List T) (hf : ∀ a, (f a).length = ti.size)
    (he : ∀ fuel cs x, DataW.trod enc P w 0 spare held fuel e cs = some x → ∃ a, Rd w cs (f a)) {fuel : Nat} {cs : List Value} {x} (h : DataW.trod enc P w 0 spare held fuel t cs = some x) :
    ∃ (nl : Bool) (l : List α), Rd w cs [.sl nl ti.size (l.map f)] := by
  obtain ⟨d, h1, h2⟩ := und_ty hC ht
  cases d <;> simp [descOf] at h2
  subst h2
  rcases Go.Deep.open_slice h1 h with ⟨rfl, _⟩ | ⟨a, len, cap, m, n, D, Pl, rfl, _, hlc, hcm, hm, _, hel⟩
  · exact ⟨true, [], .one (.nil _)⟩
  rw [cellsOf_ty hC hti] at hel
  have hlm : len ≤ m := by rw [hm]; split <;> omega
  obtain ⟨l, hl1, hl2⟩ := build_list (p := fun i a' => ∃ cs', w.cells? 0 (a.add (i * ti.size)) ti.size = some cs' ∧ Rd w cs' (f a')) len fun i hi => by
    obtain ⟨cs', h3, h4⟩ := hel i (by omega)
    obtain ⟨a', ha⟩ := he _ _ _ h4
    exact ⟨a', cs', h3, ha⟩
  refine ⟨false, l, .one ?_⟩
  cases hl : l with
  | nil =>
    have : len = 0 := by rw [← hl1, hl]; rfl
    subst this
    exact .emp _ _ _ hcm
  | cons a0 r =>
    rw [← hl]
    have hlen : (l.map f).length = len := by simp [hl1]
    have h00 : l[0]? = some a0 := by rw [hl]; rfl
    obtain ⟨c0, hc0, _⟩ := hl2 0 a0 h00
    obtain ⟨_, _, hcell0⟩ := World.cells?_some hc0
    have hsome : ∀ i c', w.cells? 0 (a.add (i * ti.size)) ti.size = some c' → ∀ j, j < ti.size → ∃ v, w.cell? ((a.add (i * ti.size)).add j) = some v ∧ c'[j]? = some v := by
      intro i c' hc j hj
      obtain ⟨_, hcl, hcc⟩ := World.cells?_some hc
      have := hcc j hj
      rw [List.getElem?_eq_getElem (by omega)] at this
      exact ⟨_, this, List.getElem?_eq_getElem (by omega)⟩
    obtain ⟨v00, hv00, _⟩ := hsome 0 c0 hc0 0 h0
    have hspot : a.spot = none := by
      simp only [Nat.zero_mul] at hv00
      have e : (a.add 0).add 0 = a := by simp [Addr.add]
      rw [e] at hv00
      unfold World.cell? at hv00
      split at hv00
      · split at hv00
        · cases hv00
        · rename_i hs; simpa using hs
      · cases hv00
    obtain ⟨ab, ao, asp⟩ := a
    simp only at hspot
    subst hspot
    have hadd : ∀ i j, ((⟨ab, ao, none⟩ : Addr).add i).add j = ⟨ab, ao + (i + j), none⟩ := by
      intro i j
      unfold Addr.add
      by_cases hi : i = 0 <;> by_cases hj : j = 0 <;> simp [hi, hj, Nat.add_assoc]
    have hblk : ab < w.heap.size := by
      rw [hadd] at hv00
      unfold World.cell? at hv00
      cases hb : w.heap[ab]? with
      | none => simp [hb] at hv00
      | some o => exact (Array.getElem?_eq_some_iff.1 hb).1
    have hmain : ∀ (i : Nat) (el : List T) (j : Nat) (x : T), (l.map f)[i]? = some el → el[j]? = some x → ∃ v, w.cell? ⟨ab, ao + (i * ti.size + j), none⟩ = some v ∧ VT (oldB w) w x v := by
      intro i el j x hi hj
      rw [List.getElem?_map] at hi
      cases hli : l[i]? with
      | none => simp [hli] at hi
      | some a' =>
        simp [hli] at hi
        subst hi
        obtain ⟨cs', hc, hrd⟩ := hl2 i a' hli
        have hjl : j < ti.size := by have := (List.getElem?_eq_some_iff.1 hj).1; rw [hf] at this; exact this
        obtain ⟨v, hv1, hv2⟩ := hsome i cs' hc j hjl
        rw [hadd] at hv1
        exact ⟨v, hv1, hrd.2 j x v hj hv2⟩
    rw [← hlen] at hlc ⊢
    refine .sl _ _ ab ao cap (fun i j => (w.cell? ⟨ab, ao + (i * ti.size + j), none⟩).getD (.bool false)) (fun _ => hblk) hlc hcm (fun i el hi => ?_) (fun i el j x hi hj => ?_) fun i el j x hi hj => ?_
    · rw [List.getElem?_map] at hi
      cases hli : l[i]? with
      | none => simp [hli] at hi
      | some a' => simp [hli] at hi; rw [← hi]; exact hf a'
    · obtain ⟨v, h3, _⟩ := hmain i el j x hi hj
      rw [h3]; rfl
    · obtain ⟨v, h3, h4⟩ := hmain i el j x hi hj
      rw [h3]; exact h4

omit hC in
/-- The cells of a struct, put together out of its parts. -/
theorem Rd.part {cs : List Value} {off n : Nat} {us : List T} (h : Rd w ((cs.drop off).take n) us) : ∀ (i : Nat) (x : T) (v : Value), us[i]? = some x → cs[off + i]? = some v → VT (oldB w) w x v := fun i x v hx hv => by
  refine h.2 i x v hx ?_
  have hi : i < ((cs.drop off).take n).length := by rw [h.1]; exact (List.getElem?_eq_some_iff.1 hx).1
  have hin : i < n := by simp at hi; omega
  rw [List.getElem?_take_of_lt hin, List.getElem?_drop]; exact hv
omit hC in
theorem Rd.len {cs : List Value} {off n : Nat} {us : List T} (h : Rd w ((cs.drop off).take n) us) : us.length = min n (cs.length - off) := by
  have := h.1; simp at this; omega
end

/-! ### The program's data -/
section
variable {H : Type} {enc : TypeId × Value → H} {w : World} {spare : Nat → Bool} {held : Bool}

theorem rd_lit {fuel : Nat} {cs : List Value} {x} (h : DataW.trod enc Tryz.prog w 0 spare held fuel 55 cs = some x) : ∃ l : Lit, Rd w cs (tLit l) := by
  obtain ⟨hl, hf⟩ := rd_struct cx_ok (t := 55) rfl h
  obtain ⟨n0, y0, h0⟩ := hf 0 3 _ (by decide) rfl
  obtain ⟨n1, y1, h1⟩ := hf 1 4 _ (by decide) rfl
  obtain ⟨a, ha⟩ := rd_int cx_ok (t := 3) rfl h0
  obtain ⟨b, hb⟩ := rd_bool cx_ok (t := 4) rfl h1
  refine ⟨⟨a, b⟩, hl, fun i x v hx hv => ?_⟩
  match i with
  | 0 => exact ha.part 0 x v hx hv
  | 1 => exact hb.part 0 x v hx hv
  | i + 2 => simp [tLit] at hx
theorem rd_lits {fuel : Nat} {cs : List Value} {x} (h : DataW.trod enc Tryz.prog w 0 spare held fuel 24 cs = some x) : ∃ (nl : Bool) (l : List Lit), Rd w cs [.sl nl 2 (l.map tLit)] :=
  rd_slice cx_ok (t := 24) (e := 55) rfl rfl (by decide) tLit (fun _ => rfl) (fun _ _ _ h => rd_lit h) h
theorem rd_ints {fuel : Nat} {cs : List Value} {x} (h : DataW.trod enc Tryz.prog w 0 spare held fuel 23 cs = some x) : ∃ (nl : Bool) (l : List Int), Rd w cs [.sl nl 1 (l.map tI)] :=
  rd_slice cx_ok (t := 23) (e := 3) rfl rfl (by decide) tI (fun _ => rfl) (fun _ _ _ h => rd_int cx_ok (t := 3) rfl h) h
theorem rd_rows {fuel : Nat} {cs : List Value} {x} (h : DataW.trod enc Tryz.prog w 0 spare held fuel 28 cs = some x) : ∃ (nl : Bool) (l : List (Bool × List Int)), Rd w cs [.sl nl 1 (tLs l)] :=
  rd_slice cx_ok (t := 28) (e := 23) rfl rfl (by decide) (fun p : Bool × List Int => [tIs p.1 p.2]) (fun _ => rfl) (fun _ _ _ h => by obtain ⟨nl, l, h⟩ := rd_ints h; exact ⟨(nl, l), h⟩) h
theorem rd_strs {fuel : Nat} {cs : List Value} {x} (h : DataW.trod enc Tryz.prog w 0 spare held fuel 22 cs = some x) : ∃ (nl : Bool) (l : List ByteArray), Rd w cs [.sl nl 1 (l.map tS)] :=
  rd_slice cx_ok (t := 22) (e := 9) rfl rfl (by decide) tS (fun _ => rfl) (fun _ _ _ h => rd_str cx_ok (t := 9) rfl h) h
theorem rd_eff {fuel : Nat} {cs : List Value} {x} (h : DataW.trod enc Tryz.prog w 0 spare held fuel 57 cs = some x) : ∃ e : Eff, Rd w cs (tEff e) := by
  obtain ⟨hl, hf⟩ := rd_struct cx_ok (t := 57) rfl h
  obtain ⟨n0, y0, h0⟩ := hf 0 24 _ (by decide) rfl
  obtain ⟨n1, y1, h1⟩ := hf 1 55 _ (by decide) rfl
  obtain ⟨nl, a, ha⟩ := rd_lits h0
  obtain ⟨b, hb⟩ := rd_lit h1
  refine ⟨⟨nl, a, b⟩, hl, fun i x v hx hv => ?_⟩
  match i with
  | 0 => exact ha.part 0 x v hx hv
  | 1 => exact hb.part 0 x v hx hv
  | 2 => exact hb.part 1 x v hx hv
  | i + 3 => simp [tEff] at hx
theorem rd_effs {fuel : Nat} {cs : List Value} {x} (h : DataW.trod enc Tryz.prog w 0 spare held fuel 51 cs = some x) : ∃ (nl : Bool) (l : List Eff), Rd w cs [.sl nl 3 (l.map tEff)] :=
  rd_slice cx_ok (t := 51) (e := 57) rfl rfl (by decide) tEff (fun _ => rfl) (fun _ _ _ h => rd_eff h) h
theorem rd_act {fuel : Nat} {cs : List Value} {x} (h : DataW.trod enc Tryz.prog w 0 spare held fuel 53 cs = some x) : ∃ e : Actn, Rd w cs (tAct e) := by
  obtain ⟨hl, hf⟩ := rd_struct cx_ok (t := 53) rfl h
  obtain ⟨n0, y0, h0⟩ := hf 0 9 _ (by decide) rfl
  obtain ⟨n1, y1, h1⟩ := hf 1 3 _ (by decide) rfl
  obtain ⟨n2, y2, h2⟩ := hf 2 24 _ (by decide) rfl
  obtain ⟨n3, y3, h3⟩ := hf 3 51 _ (by decide) rfl
  obtain ⟨a, ha⟩ := rd_str cx_ok (t := 9) rfl h0
  obtain ⟨b, hb⟩ := rd_int cx_ok (t := 3) rfl h1
  obtain ⟨nc, c, hc⟩ := rd_lits h2
  obtain ⟨nd, d, hd⟩ := rd_effs h3
  refine ⟨⟨a, b, nc, c, nd, d⟩, hl, fun i x v hx hv => ?_⟩
  match i with
  | 0 => exact ha.part 0 x v hx hv
  | 1 => exact hb.part 0 x v hx hv
  | 2 => exact hc.part 0 x v hx hv
  | 3 => exact hd.part 0 x v hx hv
  | i + 4 => simp [tAct] at hx
theorem rd_acts {fuel : Nat} {cs : List Value} {x} (h : DataW.trod enc Tryz.prog w 0 spare held fuel 25 cs = some x) : ∃ (nl : Bool) (l : List Actn), Rd w cs [.sl nl 4 (l.map tAct)] :=
  rd_slice cx_ok (t := 25) (e := 53) rfl rfl (by decide) tAct (fun _ => rfl) (fun _ _ _ h => rd_act h) h
theorem rd_task {fuel : Nat} {cs : List Value} {x} (h : DataW.trod enc Tryz.prog w 0 spare held fuel 27 cs = some x) : ∃ t : Task, Rd w cs (tTask t) := by
  obtain ⟨hl, hf⟩ := rd_struct cx_ok (t := 27) rfl h
  obtain ⟨n0, y0, h0⟩ := hf 0 22 _ (by decide) rfl
  obtain ⟨n1, y1, h1⟩ := hf 1 23 _ (by decide) rfl
  obtain ⟨n2, y2, h2⟩ := hf 2 24 _ (by decide) rfl
  obtain ⟨n3, y3, h3⟩ := hf 3 25 _ (by decide) rfl
  obtain ⟨na, a, ha⟩ := rd_strs h0
  obtain ⟨nb, b, hb⟩ := rd_ints h1
  obtain ⟨nc, c, hc⟩ := rd_lits h2
  obtain ⟨nd, d, hd⟩ := rd_acts h3
  refine ⟨⟨na, a, nb, b, nc, c, nd, d⟩, hl, fun i x v hx hv => ?_⟩
  match i with
  | 0 => exact ha.part 0 x v hx hv
  | 1 => exact hb.part 0 x v hx hv
  | 2 => exact hc.part 0 x v hx hv
  | 3 => exact hd.part 0 x v hx hv
  | i + 4 => simp [tTask] at hx

theorem laidOut : laidOutB Tryz.prog = true := by kernel_rfl
theorem own : ownKnob Tryz.prog.godebug = none := by kernel_rfl

def noKeys : K → Nat := fun _ => 0
theorem start_wr (w : World) : WR (entP noKeys (oldB w) w) noKeys (oldB w) ⟨[], []⟩ w := by
  have hno : ∀ k o, St.get ⟨[], []⟩ k = some o → False := by
    intro k
    induction k with
    | cur s => intro o h; simp [St.get, look] at h
    | fr i s => intro o h; simp [St.get] at h
    | sub k i ih => intro o h; obtain ⟨_, _, _, _, _, hg, _⟩ := St.get_sub h; exact ih _ hg
  exact ⟨rfl, rfl, rfl, Nat.le_refl _, fun _ _ _ => rfl, fun _ h => h, fun _ h => h, fun _ h => .inl h, fun k o hk => (hno k o hk).elim, fun k o hk => (hno k o hk).elim, fun k _ o _ hk => (hno k o hk).elim, fun k o hk => (hno k o hk).elim, fun k o hk => (hno k o hk).elim, fun _ _ _ => rfl⟩

theorem vl_task {t : Task} {v : Value} (h : Rd w v.cells.toList (tTask t)) (hv : ∃ cs, v = .agg cs) : VL noKeys (oldB w) w (.task t) v := by
  obtain ⟨cs, rfl⟩ := hv
  have h' : Rd w cs.toList (tTask t) := h
  obtain ⟨h1, h2⟩ := h'
  rw [show cs = cs.toList.toArray by simp]
  generalize cs.toList = l at h1 h2
  match l, h1 with
  | [a, b, c, d], _ =>
    have g0 := h2 0 _ a rfl rfl
    have g1 := h2 1 _ b rfl rfl
    have g2 := h2 2 _ c rfl rfl
    have g3 := h2 3 _ d rfl rfl
    refine .agg _ _ rfl (fun i x v hx hv => ?_) fun v hv => ?_
    · match i with
      | 0 => simp at hx hv; subst hx; subst hv; exact .t _ _ g0
      | 1 => simp at hx hv; subst hx; subst hv; exact .t _ _ g1
      | 2 => simp at hx hv; subst hx; subst hv; exact .t _ _ g2
      | 3 => simp at hx hv; subst hx; subst hv; exact .t _ _ g3
      | i + 4 => simp at hx
    · simp at hv
      rcases hv with rfl | rfl | rfl | rfl
      · exact g0.one
      · exact g1.one
      · exact g2.one
      · exact g3.one
theorem vl_ints {nl : Bool} {s : List Int} {v : Value} (h : Rd w v.cells.toList [.sl nl 1 (s.map tI)]) (hv : ∃ a b c, v = .slice a b c) : VL noKeys (oldB w) w (.ints nl s) v := by
  obtain ⟨a, b, c, rfl⟩ := hv
  exact .t _ _ (h.2 0 _ _ rfl rfl)

theorem wr_below {β' RO' out ro w'} (h : WR (entP noKeys (oldB w) w) β' RO' ⟨out, ro⟩ w') : Go.RowKit.Below w.heap.size w w' := ⟨h.os, h.tape, h.output, h.size, fun k hk => h.keep k hk fun hf => hf⟩
theorem vl_true {β' RO' w' v} (h : VL β' RO' w' (.bool true) v) : v = .bool true := h.v_inv
end

theorem und27 : ∃ fs, Tryz.prog.underlying 27 = some (.struct fs) := by
  obtain ⟨d, h1, h2⟩ := und_ty cx_ok (t := 27) rfl
  cases d <;> simp [descOf] at h2
  exact ⟨_, h1⟩
theorem und23 : Tryz.prog.underlying 23 = some (.slice 3) := by kernel_rfl
theorem und4 : Tryz.prog.underlying 4 = some .bool := by kernel_rfl

section
variable {w : World}
theorem vl_sl {nl : Bool} {sz : Nat} {es : List (List T)} {v : Value} (h : Rd w v.cells.toList [.sl nl sz es]) (hv : ∃ a b c, v = .slice a b c) : VL noKeys (oldB w) w (.t (.sl nl sz es)) v := by
  obtain ⟨a, b, c, rfl⟩ := hv
  exact .t _ _ (h.2 0 _ _ rfl rfl)
end
theorem vl_num {β : K → Nat} {RO : Nat → Prop} {w : World} {k : IntKind} {n : Int} {v : Value} (h : v = .int k n) : VL β RO w (.t (.v (.int k n))) v := by
  rw [h]; exact .t _ _ (.v _ rfl)
theorem okWide_num {P : Program} {w : World} {r : Reach} {base : Nat} {t : TypeId} {v : Value} {k : IntKind} (ht : P.underlying t = some (.int k)) (h : Value.okWide P w r base t v) : ∃ n, v = .int k n ∧ k.has n := by
  simp only [Value.okWide, ht, Cell.okWide] at h
  cases v <;> simp_all [Cell.ok]
theorem u8_in {n : Int} (h : IntKind.has .u8 n) : 0 ≤ n ∧ n ≤ 255 := h
theorem und24 : Tryz.prog.underlying 24 = some (.slice 55) := by kernel_rfl
theorem und28 : Tryz.prog.underlying 28 = some (.slice 23) := by kernel_rfl
theorem und3 : Tryz.prog.underlying 3 = some (.int .i64) := by kernel_rfl
theorem und5 : Tryz.prog.underlying 5 = some (.int .u8) := by kernel_rfl

section
variable {H : Type} {enc : TypeId × Value → H} {P : Program} {w : World} {base : Nat} {spare : Nat → Bool} {held : Bool}
theorem trodAll_five {t0 t1 t2 t3 t4 : TypeId} {args : Array Value} {ds : List (DataW H)} {ps : List MemPlace} (h : DataW.TrodAll enc P w base spare held [t0, t1, t2, t3, t4] args.toList ds ps) :
    ∃ v0 v1 v2 v3 v4 d0 d1 d2 d3 d4 p0 p1 p2 p3 p4, args = #[v0, v1, v2, v3, v4] ∧ ds = [d0, d1, d2, d3, d4] ∧ ps = p0 ++ p1 ++ p2 ++ p3 ++ p4 ∧ DataW.Trod enc P w base spare held t0 v0 d0 p0 ∧ DataW.Trod enc P w base spare held t1 v1 d1 p1 ∧ DataW.Trod enc P w base spare held t2 v2 d2 p2 ∧ DataW.Trod enc P w base spare held t3 v3 d3 p3 ∧ DataW.Trod enc P w base spare held t4 v4 d4 p4 := by
  obtain ⟨v0, w0, d0, e0, p0, q0, hargs, rfl, rfl, h0, k0⟩ := trodAll_cons h
  obtain ⟨v1, w1, d1, e1, p1, q1, rfl, rfl, rfl, h1, k1⟩ := trodAll_cons k0
  obtain ⟨v2, w2, d2, e2, p2, q2, rfl, rfl, rfl, h2, k2⟩ := trodAll_cons k1
  obtain ⟨v3, w3, d3, e3, p3, q3, rfl, rfl, rfl, h3, k3⟩ := trodAll_cons k2
  obtain ⟨v4, w4, d4, e4, p4, q4, rfl, rfl, rfl, h4, k4⟩ := trodAll_cons k3
  obtain ⟨rfl, rfl, rfl⟩ := trodAll_nil k4
  exact ⟨v0, v1, v2, v3, v4, d0, d1, d2, d3, d4, p0, p1, p2, p3, p4, by cases args; simp_all, rfl, by simp, h0, h1, h2, h3, h4⟩
theorem trodAll_mk5 {t0 t1 t2 t3 t4 : TypeId} {v0 v1 v2 v3 v4 : Value} {d0 d1 d2 d3 d4 : DataW H} {p0 p1 p2 p3 p4 : List MemPlace} (h0 : DataW.Trod enc P w base spare held t0 v0 d0 p0) (h1 : DataW.Trod enc P w base spare held t1 v1 d1 p1) (h2 : DataW.Trod enc P w base spare held t2 v2 d2 p2) (h3 : DataW.Trod enc P w base spare held t3 v3 d3 p3) (h4 : DataW.Trod enc P w base spare held t4 v4 d4 p4) :
    DataW.TrodAll enc P w base spare held [t0, t1, t2, t3, t4] [v0, v1, v2, v3, v4] [d0, d1, d2, d3, d4] (p0 ++ (p1 ++ (p2 ++ (p3 ++ p4)))) := ⟨p0, p1 ++ (p2 ++ (p3 ++ p4)), h0, trodAll_mk4 h1 h2 h3 h4, rfl⟩
end

/-! ### How long a slice is that the form reads -/
theorem vt_len {RO : Nat → Prop} {w : World} {nl : Bool} {sz : Nat} {es : List (List T)} {a : Option Addr} {len cap : Nat} (h : VT RO w (.sl nl sz es) (.slice a len cap)) : es.length ≤ len := by
  cases h <;> simp
section
variable {H : Type} {enc : TypeId × Value → H} {w : World} {spare : Nat → Bool} {held : Bool}
theorem sized_len {nl : Bool} {sz t e : Nat} {es : List (List T)} {v : Value} {fuel : Nat} {d : DataW H} {p : List MemPlace} {ts : List TypeId} {ds : List (DataW H)} {j : Nat} {n : Nat}
    (ht : Tryz.prog.underlying t = some (.slice e)) (hr : Rd w v.cells.toList [.sl nl sz es]) (hq : DataW.trod enc Tryz.prog w 0 spare held fuel t v.cells.toList = some (d, p))
    (hs : (DataW.weightsEach Tryz.prog ts ds).all (· ≤ reachBytes) = true) (h1 : ts[j]? = some t) (h2 : ds[j]? = some d) (hb : reachBytes ≤ n * Tryz.prog.bytesOf e) (h0 : 0 < Tryz.prog.bytesOf e) : es.length ≤ n := by
  rcases Go.Deep.open_slice ht hq with ⟨hc, _⟩ | ⟨a, len, cap, m, k, D, Pl, hc, _, _, _, _, hx, _⟩
  · rw [hc] at hr
    have := vt_len (hr.2 0 _ _ rfl rfl)
    omega
  · rw [hc] at hr
    have h3 := vt_len (hr.2 0 _ _ rfl rfl)
    obtain ⟨rfl, _⟩ := Prod.mk.inj hx
    have h4 := sized_slice hs h1 h2 ht
    rw [List.length_map, List.length_range] at h4
    have h5 := Nat.le_trans h4 hb
    have h6 := Nat.le_of_mul_le_mul_right h5 h0
    omega
end

end Go.Fw

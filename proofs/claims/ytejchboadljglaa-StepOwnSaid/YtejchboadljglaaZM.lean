/- Texts that lead to the law, part 13. -/
import Derived.Test.YtejchboadljglaaZL
import Derived.Test.YtejchboadljglaaRows
import Derived.Carry
import Derived.ProofKit
import Derived.Deep.Slices
import Derived.SizedLaws

/- The law StepOwn: Apply's result is written. -/
namespace Go.Fw
open Go Go.Proofs
set_option maxRecDepth 10000

set_option maxHeartbeats 2000000 in
theorem f11_apply (t : Task) (n1 n2 : Bool) (s p : List Int) (hn1 : n1 = true → s = []) (hsl : s.length ≤ 400) (hpl : p.length ≤ 400) (o : Option (List GR)) (c e : Int) (g : Bool) (hE : ExK n1 t s p (o.map List.length) e) (out : List Fr) :
    rest11 7 (env11 n1 n2 s p e) ⟨out, st11 t s p o c g⟩ (retW cxo Try.f11.results.toList fun r ro => r = .bool true ∧ ro = []) := by
  refine CutX.mk ?_
  have tail := f11_end t n1 n2 s p hn1 hsl hpl o c e g hE out
  have m39 := f39o_spec t n1 s
  cases p
  case' nil => let Px : List Int := []
  case' cons x1 r1 => let Px : List Int := x1 :: r1
  all_goals
    cases s
    case' nil => let Sx : List Int := []
    case' cons x0 r0 => let Sx : List Int := x0 :: r0
    all_goals
      cases o
      case' none => let Ox : Option (List GR) := none
      case' some R => let Ox : Option (List GR) := some R
      all_goals
        refine And.intro (fun h1 => ?_) fun h1 => ?_
        rotate_left
        · first
            | exact tail
            | (exfalso
               have h1 := of_decide_eq_false h1
               simp at h1
               omega)
        first
          | cases h1
          | skip
      all_goals
        clear h1
        refine And.intro (Int.le_refl 0) (Exists.intro (tI x1) (And.intro rfl ?_))
        refine SpecP.mono (m39 x1 _) ?_
        rintro _ _ ⟨σ, L, b, e2, hσ, hL, rfl, rfl⟩
        cases L
        case' nil =>
          let Lx : List Int := []
          let V19 : LV := .t (.sl true 0 [])
          let O19 : List Int → Fr := fun _ => []
        case' cons y q =>
          let Lx : List Int := y :: q
          rcases hσ with rfl | rfl
          case' inl =>
            let V19 : LV := .osl (.cur 1026003526) 1 0 (tI y :: q.map tI).length
            let O19 : List Int → Fr := fun es => [(1026003526, .row 3 1 (es.map tI))]
          case' inr =>
            let V19 : LV := .osl (.cur 1026003646) 1 0 (tI y :: q.map tI).length
            let O19 : List Int → Fr := fun es => [(1026003646, .row 3 1 (es.map tI))]
        all_goals
          refine And.intro ⟨rfl, rfl, rfl⟩ ?_
          refine And.intro (fun _ => ?_) fun _ => ?_
          all_goals
            refine LoopX.mk (Nat × List Int) (fun u => u.2.length = Lx.length) (fun u => env11 n1 n2 Sx Px e ++ [(19, V19), (93, .int (Lx.map tI).length), (94, .int u.1)])
              (fun u => ⟨out, st11 t Sx Px Ox c g ++ O19 u.2⟩) (fun u => Lx.length - u.1) (0, Lx) rfl ⟨rfl, rfl⟩ ?_
            rintro ⟨i, es⟩ hes
            have hes : es.length = Lx.length := hes
            refine And.intro (fun h1 => ?_) fun h1 => ?_
            · first
                | exact absurd (Int.ofNat_lt.1 (of_decide_eq_true h1)) (Nat.not_lt_zero _)
                | skip
              all_goals
                have hpl : Lx.length ≤ 1000000000 := hL
                have hi : i < es.length := by
                  have h1' : (i : Int) < (((Lx.map tI).length : Nat) : Int) := of_decide_eq_true h1
                  rw [List.length_map] at h1'; omega
                have hiP : i < (tI y :: q.map tI).length := by
                  have : (tI y :: q.map tI).length = Lx.length := by show _ = (y :: q).length; simp
                  omega
                refine And.intro (Int.natCast_nonneg _) (And.intro (Int.ofNat_lt.2 hiP) (Exists.intro _ (And.intro (getJ hi) (And.intro (Nat.le_refl 1) ?_))))
                refine And.intro (by show (-9223372036854775808 : Int) ≤ (i : Int) + 1; omega) (And.intro (by show (i : Int) + 1 ≤ 9223372036854775807; omega) ?_)
                refine Exists.intro (i + 1, es.set i (-7)) (And.intro (by show Lx.length - (i + 1) < Lx.length - i; omega) (And.intro (by show (es.set i (-7)).length = Lx.length; rw [List.length_set]; exact hes) ⟨rfl, ?_⟩))
                first
                  | exact congrArg (fun z => (⟨out, st11 t Sx Px Ox c g ++ [(1026003526, .row 3 1 z)]⟩ : St)) (setI (l := es) (i := i) (v := -7)).symm
                  | exact congrArg (fun z => (⟨out, st11 t Sx Px Ox c g ++ [(1026003646, .row 3 1 z)]⟩ : St)) (setI (l := es) (i := i) (v := -7)).symm
            · exact tail

end Go.Fw

/- The law StepOwn: Applicable's result is written. -/
namespace Go.Fw
open Go Go.Proofs
set_option maxRecDepth 10000

theorem f47w_spec (t : Task) (n1 : Bool) (s : List Int) (out : List Fr) : SpecP Try.prog 47 [.task t, .ints n1 s] out fun r ro => ∃ (L : List Int) (e : Int), L.length ≤ 1000000000 ∧ r = .tup [accV 248 1 (L.map tI), .int e] ∧ ro = accO 248 3 1 (L.map tI) :=
  (f47o_spec t n1 s out).mono fun r ro h => by
    rcases h with ⟨h, rfl, rfl⟩ | ⟨h, rfl, rfl⟩
    · exact ⟨[], _, Nat.zero_le _, rfl, rfl⟩
    · refine ⟨_, _, ?_, rfl, rfl⟩
      have TK := task_ok (hts_of h).1
      have hN := TK.facts
      exact Nat.le_trans (selI_len _ _) (by have := TK.acts; omega)

set_option maxHeartbeats 2000000 in
theorem f11_appl (t : Task) (n1 n2 : Bool) (s p : List Int) (hn1 : n1 = true → s = []) (hsl : s.length ≤ 400) (hpl : p.length ≤ 400) (o : Option (List GR)) (c e : Int) (g : Bool) (hE : ExK n1 t s p (o.map List.length) e) (out : List Fr) :
    rest11 5 (env11 n1 n2 s p e) ⟨out, st11 t s p o c g⟩ (retW cxo Try.f11.results.toList fun r ro => r = .bool true ∧ ro = []) := by
  refine CutX.mk ?_
  have tail := f11_apply t n1 n2 s p hn1 hsl hpl o c e g hE out
  have m47 := f47w_spec t n1 s
  cases p
  case' nil => let Px : List Int := []
  case' cons x1 r1 => let Px : List Int := x1 :: r1
  all_goals
    cases s
    case' nil => let Sx : List Int := []
    case' cons x0 r0 => let Sx : List Int := x0 :: r0
    all_goals
      cases o
      case' none => let Ox : Option (List GR) := none
      case' some R => let Ox : Option (List GR) := some R
      all_goals
        refine SpecP.mono (m47 _) ?_
        rintro _ _ ⟨L, e2, hL, rfl, rfl⟩
        cases L
        case' nil =>
          let Lx : List Int := []
          let V19 : LV := .t (.sl true 0 [])
          let O19 : List Int → Fr := fun _ => []
        case' cons y q =>
          let Lx : List Int := y :: q
          let V19 : LV := .osl (.cur 537001859) 1 0 (tI y :: q.map tI).length
          let O19 : List Int → Fr := fun es => [(537001859, .row 3 1 (es.map tI))]
        all_goals
          refine LoopX.mk (Nat × List Int) (fun u => u.2.length = Lx.length) (fun u => env11 n1 n2 Sx Px e ++ [(16, V19), (71, .int (Lx.map tI).length), (72, .int u.1)])
            (fun u => ⟨out, st11 t Sx Px Ox c g ++ O19 u.2⟩) (fun u => Lx.length - u.1) (0, Lx) rfl ⟨rfl, rfl⟩ ?_
          rintro ⟨i, es⟩ hes
          have hes : es.length = Lx.length := hes
          refine And.intro (fun h1 => ?_) fun h1 => ?_
          · first
              | exact absurd (Int.ofNat_lt.1 (of_decide_eq_true h1)) (Nat.not_lt_zero _)
              | skip
            all_goals
              have hpl : Lx.length ≤ 1000000000 := hL
              have hi : i < es.length := by
                have h1' : (i : Int) < (((Lx.map tI).length : Nat) : Int) := of_decide_eq_true h1
                rw [List.length_map] at h1'; omega
              have hiP : i < (tI y :: q.map tI).length := by
                have : (tI y :: q.map tI).length = Lx.length := by show _ = (y :: q).length; simp
                omega
              refine And.intro (Int.natCast_nonneg _) (And.intro (Int.ofNat_lt.2 hiP) (Exists.intro _ (And.intro (getJ hi) (And.intro (Nat.le_refl 1) ?_))))
              refine And.intro (by show (-9223372036854775808 : Int) ≤ (i : Int) + 1; omega) (And.intro (by show (i : Int) + 1 ≤ 9223372036854775807; omega) ?_)
              refine Exists.intro (i + 1, es.set i (-7)) (And.intro (by show Lx.length - (i + 1) < Lx.length - i; omega) (And.intro (by show (es.set i (-7)).length = Lx.length; rw [List.length_set]; exact hes) ⟨rfl, ?_⟩))
              exact congrArg (fun z => (⟨out, st11 t Sx Px Ox c g ++ [(537001859, .row 3 1 z)]⟩ : St)) (setI (l := es) (i := i) (v := -7)).symm
          · exact tail

end Go.Fw

/- The law StepOwn. -/
namespace Go.Fw
open Go Go.Proofs
set_option maxRecDepth 10000

/-- The state with a length of its own in the result's box. -/
abbrev st11n (t : Task) (s p : List Int) (n : Nat) (R : List GR) (c : Int) (g : Bool) : Fr := (24, .box (cellsTask t)) :: (56, .box (cellsTask (copyT t))) :: (accO 288 3 1 (s.map tI) ++ (accO 304 3 1 (p.map tI) ++ (80, .box [.osl (.cur 570001822) 1 0 n, .int c, .bool g]) :: [(570001822, .grid 23 3 1 R)]))
def Rows (n : Nat) (R : List GR) : Prop := R.length = n ∧ ∀ (i : Nat) (x : GR), R[i]? = some x → ∃ (b : Bool) (l : List Int), x = rowG b l ∧ l.length ≤ 1000000000
theorem Rows.set {n : Nat} {R : List GR} (h : Rows n R) (i : Nat) (l : List Int) (hl : l.length ≤ 1000000000) : Rows n (R.set i (.row (l.map tI))) :=
  ⟨by rw [List.length_set]; exact h.1, fun k x hx => by
    rw [List.getElem?_set] at hx
    split at hx
    · split at hx
      · cases hx; exact ⟨false, l, rfl, hl⟩
      · cases hx
    · exact h.2 k x hx⟩
theorem setG {R : List GR} {i j : Nat} {l : List Int} {v : Int} : (R.set i (.row (l.map tI))).set i (.row ((l.map tI).set (0 + ((j : Nat) : Int).toNat) [.v (.int .i64 v)])) = R.set i (.row ((l.set j v).map tI)) := by
  rw [List.set_set, setI]

set_option maxHeartbeats 2000000 in
theorem f11_spec (t : Task) (S : TaskS t) (n1 n2 : Bool) (s p : List Int) (out : List Fr) : SpecP Try.prog 11 [.task t, .ints n1 s, .ints n2 p] out fun r ro => r = .bool true ∧ ro = [] := by
  refine SpecP.nil_arg (i := 1) rfl (by unfold FnOK; kernel_rfl) fun hnil => ?_
  refine spec_walkH cxo_ok mH_ok kp11 od11 (fn := Try.f11) (by kernel_rfl) rfl (by kernel_rfl) rfl (by unfold FnOK; kernel_rfl) fun hok => ?_
  refine Exists.intro (tLs [(n1, s), (n2, p)]) (And.intro rfl (And.intro (Nat.le_of_ble_eq_true rfl) ?_))
  refine SpecP.mono (f37_spec t false [(n1, s), (n2, p)] (by simp) _) ?_
  rintro _ _ ⟨few, hfew, rfl, rfl⟩
  refine And.intro trivial (And.intro trivial ?_)
  refine And.intro (fun hf => ?_) fun hf => ?_
  rotate_left
  · refine SpecP.mono (f38_spec _) ?_
    rintro _ _ ⟨rfl, rfl⟩
    exact And.intro (fun _ => Exists.intro [] (ret_bool rfl rfl)) fun h => Bool.noConfusion h
  have hsl : s.length ≤ 400 := hfew hf (n1, s) (by simp)
  have hpl : p.length ≤ 400 := hfew hf (n2, p) (by simp)
  have tail := fun o c e g hE => f11_appl t n1 n2 s p hnil hsl hpl o c e g hE out
  have m42 := f42g_spec t n1 n2 s p
  refine SpecP.mono (f46_spec t S _) ?_
  rintro _ _ ⟨rfl, rfl⟩
  cases s
  case' nil => let Sx : List Int := []
  case' cons x0 r0 =>
    let Sx : List Int := x0 :: r0
    refine And.intro (by simp at hsl ⊢; omega) (And.intro (by simp at hsl ⊢; omega) ?_)
  all_goals
    cases p
    case' nil => let Px : List Int := []
    case' cons x1 r1 =>
      let Px : List Int := x1 :: r1
      refine And.intro (by simp at hpl ⊢; omega) (And.intro (by simp at hpl ⊢; omega) ?_)
    all_goals
      refine SpecP.mono (m42 _) ?_
      intro r ro hP
      obtain ⟨o, c, g, a, e, hE, hR, rfl, rfl⟩ := hP.form
      cases o
      · refine LoopX.mk Nat (fun _ => True) (fun i => env11 n1 n2 Sx Px e ++ [(48, .t (.sl true 0 [])), (49, .int 0), (50, .int i)]) (fun _ => ⟨out, st11 t Sx Px none c g⟩) (fun _ => 0) 0 trivial ⟨rfl, rfl⟩ ?_
        rintro i _
        refine And.intro (fun h1 => ?_) fun h1 => ?_
        · exact absurd (Int.ofNat_lt.1 (of_decide_eq_true h1)) (Nat.not_lt_zero _)
        · exact tail none c e g hE
      rename_i R
      obtain ⟨hRl, _, hRr⟩ := hR R rfl
      refine LoopX.mk (Nat × List GR) (fun u => Rows R.length u.2) (fun u => env11 n1 n2 Sx Px e ++ [(48, .osl (.cur 570001822) 1 0 R.length), (49, .int R.length), (50, .int u.1)])
        (fun u => ⟨out, st11n t Sx Px R.length u.2 c g⟩) (fun u => R.length - u.1) (0, R) ⟨rfl, hRr⟩ ⟨rfl, rfl⟩ ?_
      rintro ⟨i, R1⟩ hI
      have hI : Rows R.length R1 := hI
      refine And.intro (fun h1 => ?_) fun h1 => ?_
      rotate_left
      · have h2 := tail (some R1) c e g (by rw [Option.map_some, hI.1]; exact hE)
        have h3 : st11 t Sx Px (some R1) c g = st11n t Sx Px R.length R1 c g := by simp only [st11, gV, gO, hI.1]
        rw [h3] at h2
        exact h2
      have hi : i < R.length := Int.ofNat_lt.1 (of_decide_eq_true h1)
      have hi1 : i < R1.length := by rw [hI.1]; exact hi
      obtain ⟨b, l, hbl, hl⟩ := hI.2 i _ (List.getElem?_eq_getElem hi1)
      refine And.intro (Int.natCast_nonneg _) (And.intro (Int.ofNat_lt.2 hi) (Exists.intro (rowG b l) (And.intro (by rw [Nat.zero_add]; show R1[((i : Nat) : Int).toNat]? = _; rw [Int.toNat_natCast, List.getElem?_eq_getElem hi1, hbl]) ?_)))
      have hQ : 0 + ((i : Nat) : Int).toNat = i := by rw [Nat.zero_add, Int.toNat_natCast]
      have hadd : (-9223372036854775808 : Int) ≤ (i : Int) + 1 ∧ (i : Int) + 1 ≤ 9223372036854775807 := by omega
      cases b
      · have hset0 : R1.set (0 + ((i : Nat) : Int).toNat) (.row (l.map tI)) = R1 := by
          rw [hQ]
          have : R1[i] = .row (l.map tI) := hbl
          rw [← this, List.set_getElem_self]
        refine LoopX.mk (Nat × List Int) (fun u => u.2.length = l.length) (fun u => env11 n1 n2 Sx Px e ++ [(14, .osl (.sub (.cur 570001822) (0 + ((i : Nat) : Int).toNat)) 1 0 (l.map tI).length), (48, .osl (.cur 570001822) 1 0 R.length), (49, .int R.length), (50, .int i), (55, .int (l.map tI).length), (56, .int u.1)])
          (fun u => ⟨out, st11n t Sx Px R.length (R1.set (0 + ((i : Nat) : Int).toNat) (.row (u.2.map tI))) c g⟩) (fun u => l.length - u.1) (0, l) rfl ⟨rfl, congrArg (fun z => (⟨out, st11n t Sx Px R.length z c g⟩ : St)) hset0.symm⟩ ?_
        rintro ⟨j, es⟩ hes
        have hes : es.length = l.length := hes
        refine And.intro (fun h2 => ?_) fun h2 => ?_
        · have hj : j < es.length := by
            have h2' : (j : Int) < (((l.map tI).length : Nat) : Int) := of_decide_eq_true h2
            rw [List.length_map] at h2'; omega
          have hjP : j < (l.map tI).length := by rw [List.length_map]; omega
          have hrow : (R1.set (0 + ((i : Nat) : Int).toNat) (.row (es.map tI)))[0 + ((i : Nat) : Int).toNat]? = some (.row (es.map tI)) := List.getElem?_set_self (by rw [hQ]; exact hi1)
          refine And.intro (Int.natCast_nonneg _) (And.intro (Int.ofNat_lt.2 hjP) (Exists.intro _ (Exists.intro _ (And.intro hrow (And.intro (getJ hj) (And.intro (Nat.le_refl 1) ?_))))))
          refine And.intro (by show (-9223372036854775808 : Int) ≤ (j : Int) + 1; omega) (And.intro (by show (j : Int) + 1 ≤ 9223372036854775807; omega) ?_)
          refine Exists.intro (j + 1, es.set j (-7)) (And.intro (by show l.length - (j + 1) < l.length - j; omega) (And.intro (by show (es.set j (-7)).length = l.length; rw [List.length_set]; exact hes) ⟨rfl, ?_⟩))
          exact congrArg (fun z => (⟨out, st11n t Sx Px R.length z c g⟩ : St)) (setG (R := R1) (i := 0 + ((i : Nat) : Int).toNat) (j := j) (l := es) (v := -7))
        · refine And.intro hadd.1 (And.intro hadd.2 ?_)
          refine Exists.intro (i + 1, R1.set (0 + ((i : Nat) : Int).toNat) (.row (es.map tI))) (And.intro (by show R.length - (i + 1) < R.length - i; omega) (And.intro (hI.set _ es (by omega)) (And.intro rfl rfl)))
      · refine LoopX.mk Nat (fun _ => True) (fun j => env11 n1 n2 Sx Px e ++ [(14, .t (.sl true 0 [])), (48, .osl (.cur 570001822) 1 0 R.length), (49, .int R.length), (50, .int i), (55, .int 0), (56, .int j)])
          (fun _ => ⟨out, st11n t Sx Px R.length R1 c g⟩) (fun _ => 0) 0 trivial ⟨rfl, rfl⟩ ?_
        rintro j _
        refine And.intro (fun h2 => ?_) fun h2 => ?_
        · exact absurd (Int.ofNat_lt.1 (of_decide_eq_true h2)) (Nat.not_lt_zero _)
        · refine And.intro hadd.1 (And.intro hadd.2 ?_)
          exact Exists.intro (i + 1, R1) (And.intro (by show R.length - (i + 1) < R.length - i; omega) (And.intro hI (And.intro rfl rfl)))

end Go.Fw

/- The row: arguments that can be read are closed data; a contract of a law gives its row. -/
namespace Go.Fw
open Go Go.Proofs Go.ChangeShapes Go.WideShapes Go.ChangeAt Go.RowKit

abbrev oldB (w : World) : Nat → Prop := fun b => b < w.heap.size
def Rd (w : World) (cs : List Value) (ts : List T) : Prop := cs.length = ts.length ∧ ∀ (i : Nat) (x : T) (v : Value), ts[i]? = some x → cs[i]? = some v → VT (oldB w) w x v

section
variable {C : Ctx} {P : Program} (hC : C.OK P) {H : Type} {enc : TypeId × Value → H} {w : World} {spare : Nat → Bool} {held : Bool}
include hC

theorem cellsOf_ty {t : Nat} {i : TI} (h : C.ty t = some i) : P.cellsOf t = i.size := by
  obtain ⟨j, z, h1, h2, _⟩ := (hC.ty h).info
  simp [Program.cellsOf, h1, h2]

theorem und_ty {t : Nat} {i : TI} (h : C.ty t = some i) : ∃ d, P.underlying t = some d ∧ descOf d = i.d := (hC.ty h).underlying

omit hC in
theorem Rd.one {v : Value} {x : T} (h : VT (oldB w) w x v) : Rd w [v] [x] := ⟨rfl, fun i y u hy hu => by
  cases i with
  | zero => simp at hy hu; subst hy; subst hu; exact h
  | succ i => simp at hy⟩

theorem rd_int {t : Nat} {k : IntKind} {s b z} (ht : C.ty t = some ⟨.int k, s, b, z⟩) {fuel : Nat} {cs : List Value} {x} (h : DataW.trod enc P w 0 spare held fuel t cs = some x) : ∃ n : Int, Rd w cs [.v (.int k n)] := by
  obtain ⟨d, h1, h2⟩ := und_ty hC ht
  cases d <;> simp [descOf] at h2
  subst h2
  obtain ⟨n, rfl, _⟩ := DataW.trod_int h1 h
  exact ⟨n, .one (.v _ rfl)⟩
theorem rd_bool {t : Nat} {s b z} (ht : C.ty t = some ⟨.bool, s, b, z⟩) {fuel : Nat} {cs : List Value} {x} (h : DataW.trod enc P w 0 spare held fuel t cs = some x) : ∃ n : Bool, Rd w cs [.v (.bool n)] := by
  obtain ⟨d, h1, h2⟩ := und_ty hC ht
  cases d <;> simp [descOf] at h2
  obtain ⟨n, rfl, _⟩ := DataW.trod_bool h1 h
  exact ⟨n, .one (.v _ rfl)⟩
theorem rd_str {t : Nat} {s b z} (ht : C.ty t = some ⟨.str, s, b, z⟩) {fuel : Nat} {cs : List Value} {x} (h : DataW.trod enc P w 0 spare held fuel t cs = some x) : ∃ n : ByteArray, Rd w cs [.v (.string n)] := by
  obtain ⟨d, h1, h2⟩ := und_ty hC ht
  cases d <;> simp [descOf] at h2
  obtain ⟨n, rfl, _⟩ := DataW.trod_string h1 h
  exact ⟨n, .one (.v _ rfl)⟩
theorem rd_struct {t : Nat} {fs s b z} (ht : C.ty t = some ⟨.struct fs, s, b, z⟩) {fuel : Nat} {cs : List Value} {x} (h : DataW.trod enc P w 0 spare held fuel t cs = some x) :
    cs.length = s ∧ ∀ off ft ti, (off, ft) ∈ fs → C.ty ft = some ti → ∃ n y, DataW.trod enc P w 0 spare held n ft ((cs.drop off).take ti.size) = some y := by
  obtain ⟨d, h1, h2⟩ := und_ty hC ht
  cases d <;> simp [descOf] at h2
  rename_i fl
  obtain ⟨xs, n, _, rfl, hl, hlen, hf⟩ := DataW.trod_struct h1 h
  refine ⟨by rw [hl, cellsOf_ty hC ht], fun off ft ti hm hti => ?_⟩
  have : (off, ft) ∈ fl.toList.map fun f => (f.offset, f.type) := by rw [← h2] at hm; simpa using hm
  obtain ⟨f, hfm, hfe⟩ := List.mem_map.1 this
  simp only [Prod.mk.injEq] at hfe
  obtain ⟨i, hi, hie⟩ := List.getElem_of_mem hfm
  have hfi : fl[i]? = some f := by rw [← hie]; simp at hi ⊢
  have hx := hf i f hfi
  have hil : i < xs.length := by rw [hlen]; simpa using hi
  rw [List.getElem?_eq_getElem hil, hfe.1, hfe.2, cellsOf_ty hC hti] at hx
  exact ⟨n, _, hx⟩

omit hC in
theorem build_list {α : Type} {p : Nat → α → Prop} : ∀ n : Nat, (∀ i, i < n → ∃ a, p i a) → ∃ l : List α, l.length = n ∧ ∀ i a, l[i]? = some a → p i a
  | 0, _ => ⟨[], rfl, fun i a h => by simp at h⟩
  | n + 1, h => by
    obtain ⟨l, h1, h2⟩ := build_list n fun i hi => h i (by omega)
    obtain ⟨a, ha⟩ := h n (by omega)
    refine ⟨l ++ [a], by simp [h1], fun i b hb => ?_⟩
    by_cases hi : i < n
    · rw [List.getElem?_append_left (by omega)] at hb; exact h2 i b hb
    · have : i = n := by have := (List.getElem?_eq_some_iff.1 hb).1; simp at this; omega
      subst this
      rw [List.getElem?_append_right (by omega), h1, Nat.sub_self] at hb
      simp at hb; subst hb; exact ha

theorem rd_slice {t e : Nat} {s b z} {ti : TI} (ht : C.ty t = some ⟨.slice e, s, b, z⟩) (hti : C.ty e = some ti) (h0 : 0 < ti.size) {α : Type} (f : α → List T) (hf : ∀ a, (f a).length = ti.size)
    (he : ∀ fuel cs x, DataW.trod enc P w 0 spare held fuel e cs = some x → ∃ a, Rd w cs (f a)) {fuel : Nat} {cs : List Value} {x} (h : DataW.trod enc P w 0 spare held fuel t cs = some x) :
    ∃ (nl : Bool) (l : List α), Rd w cs [.sl nl ti.size (l.map f)] := by
  obtain ⟨d, h1, h2⟩ := und_ty hC ht
  cases d <;> simp [descOf] at h2
  subst h2
  rcases Go.Deep.open_slice h1 h with ⟨rfl, _⟩ | ⟨a, len, cap, m, n, D, Pl, rfl, _, hlc, hcm, hm, _, hel⟩
  · exact ⟨true, [], .one (.nil _)⟩
  rw [cellsOf_ty hC hti] at hel
  have hlm : len ≤ m := by rw [hm]; split <;> omega
  obtain ⟨l, hl1, hl2⟩ := build_list (p := fun i a' => ∃ cs', w.cells? 0 (a.add (i * ti.size)) ti.size = some cs' ∧ Rd w cs' (f a')) len fun i hi => by
    obtain ⟨cs', h3, h4⟩ := hel i (by omega)
    obtain ⟨a', ha⟩ := he _ _ _ h4
    exact ⟨a', cs', h3, ha⟩
  refine ⟨false, l, .one ?_⟩
  cases hl : l with
  | nil =>
    have : len = 0 := by rw [← hl1, hl]; rfl
    subst this
    exact .emp _ _ _ hcm
  | cons a0 r =>
    rw [← hl]
    have hlen : (l.map f).length = len := by simp [hl1]
    have h00 : l[0]? = some a0 := by rw [hl]; rfl
    obtain ⟨c0, hc0, _⟩ := hl2 0 a0 h00
    obtain ⟨_, _, hcell0⟩ := World.cells?_some hc0
    have hsome : ∀ i c', w.cells? 0 (a.add (i * ti.size)) ti.size = some c' → ∀ j, j < ti.size → ∃ v, w.cell? ((a.add (i * ti.size)).add j) = some v ∧ c'[j]? = some v := by
      intro i c' hc j hj
      obtain ⟨_, hcl, hcc⟩ := World.cells?_some hc
      have := hcc j hj
      rw [List.getElem?_eq_getElem (by omega)] at this
      exact ⟨_, this, List.getElem?_eq_getElem (by omega)⟩
    obtain ⟨v00, hv00, _⟩ := hsome 0 c0 hc0 0 h0
    have hspot : a.spot = none := by
      simp only [Nat.zero_mul] at hv00
      have e : (a.add 0).add 0 = a := by simp [Addr.add]
      rw [e] at hv00
      unfold World.cell? at hv00
      split at hv00
      · split at hv00
        · cases hv00
        · rename_i hs; simpa using hs
      · cases hv00
    obtain ⟨ab, ao, asp⟩ := a
    simp only at hspot
    subst hspot
    have hadd : ∀ i j, ((⟨ab, ao, none⟩ : Addr).add i).add j = ⟨ab, ao + (i + j), none⟩ := by
      intro i j
      unfold Addr.add
      by_cases hi : i = 0 <;> by_cases hj : j = 0 <;> simp [hi, hj, Nat.add_assoc]
    have hblk : ab < w.heap.size := by
      rw [hadd] at hv00
      unfold World.cell? at hv00
      cases hb : w.heap[ab]? with
      | none => simp [hb] at hv00
      | some o => exact (Array.getElem?_eq_some_iff.1 hb).1
    have hmain : ∀ (i : Nat) (el : List T) (j : Nat) (x : T), (l.map f)[i]? = some el → el[j]? = some x → ∃ v, w.cell? ⟨ab, ao + (i * ti.size + j), none⟩ = some v ∧ VT (oldB w) w x v := by
      intro i el j x hi hj
      rw [List.getElem?_map] at hi
      cases hli : l[i]? with
      | none => simp [hli] at hi
      | some a' =>
        simp [hli] at hi
        subst hi
        obtain ⟨cs', hc, hrd⟩ := hl2 i a' hli
        have hjl : j < ti.size := by have := (List.getElem?_eq_some_iff.1 hj).1; rw [hf] at this; exact this
        obtain ⟨v, hv1, hv2⟩ := hsome i cs' hc j hjl
        rw [hadd] at hv1
        exact ⟨v, hv1, hrd.2 j x v hj hv2⟩
    rw [← hlen] at hlc ⊢
    refine .sl _ _ ab ao cap (fun i j => (w.cell? ⟨ab, ao + (i * ti.size + j), none⟩).getD (.bool false)) (fun _ => hblk) hlc hcm (fun i el hi => ?_) (fun i el j x hi hj => ?_) fun i el j x hi hj => ?_
    · rw [List.getElem?_map] at hi
      cases hli : l[i]? with
      | none => simp [hli] at hi
      | some a' => simp [hli] at hi; rw [← hi]; exact hf a'
    · obtain ⟨v, h3, _⟩ := hmain i el j x hi hj
      rw [h3]; rfl
    · obtain ⟨v, h3, h4⟩ := hmain i el j x hi hj
      rw [h3]; exact h4

omit hC in
/-- The cells of a struct, put together out of its parts. -/
theorem Rd.part {cs : List Value} {off n : Nat} {us : List T} (h : Rd w ((cs.drop off).take n) us) : ∀ (i : Nat) (x : T) (v : Value), us[i]? = some x → cs[off + i]? = some v → VT (oldB w) w x v := fun i x v hx hv => by
  refine h.2 i x v hx ?_
  have hi : i < ((cs.drop off).take n).length := by rw [h.1]; exact (List.getElem?_eq_some_iff.1 hx).1
  have hin : i < n := by simp at hi; omega
  rw [List.getElem?_take_of_lt hin, List.getElem?_drop]; exact hv
omit hC in
theorem Rd.len {cs : List Value} {off n : Nat} {us : List T} (h : Rd w ((cs.drop off).take n) us) : us.length = min n (cs.length - off) := by
  have := h.1; simp at this; omega
end

/-! ### The program's data -/
section
variable {H : Type} {enc : TypeId × Value → H} {w : World} {spare : Nat → Bool} {held : Bool}

theorem rd_lit {fuel : Nat} {cs : List Value} {x} (h : DataW.trod enc Try.prog w 0 spare held fuel 50 cs = some x) : ∃ l : Lit, Rd w cs (tLit l) := by
  obtain ⟨hl, hf⟩ := rd_struct cx_ok (t := 50) rfl h
  obtain ⟨n0, y0, h0⟩ := hf 0 3 _ (by decide) rfl
  obtain ⟨n1, y1, h1⟩ := hf 1 4 _ (by decide) rfl
  obtain ⟨a, ha⟩ := rd_int cx_ok (t := 3) rfl h0
  obtain ⟨b, hb⟩ := rd_bool cx_ok (t := 4) rfl h1
  refine ⟨⟨a, b⟩, hl, fun i x v hx hv => ?_⟩
  match i with
  | 0 => exact ha.part 0 x v hx hv
  | 1 => exact hb.part 0 x v hx hv
  | i + 2 => simp [tLit] at hx
theorem rd_lits {fuel : Nat} {cs : List Value} {x} (h : DataW.trod enc Try.prog w 0 spare held fuel 24 cs = some x) : ∃ (nl : Bool) (l : List Lit), Rd w cs [.sl nl 2 (l.map tLit)] :=
  rd_slice cx_ok (t := 24) (e := 50) rfl rfl (by decide) tLit (fun _ => rfl) (fun _ _ _ h => rd_lit h) h
theorem rd_ints {fuel : Nat} {cs : List Value} {x} (h : DataW.trod enc Try.prog w 0 spare held fuel 23 cs = some x) : ∃ (nl : Bool) (l : List Int), Rd w cs [.sl nl 1 (l.map tI)] :=
  rd_slice cx_ok (t := 23) (e := 3) rfl rfl (by decide) tI (fun _ => rfl) (fun _ _ _ h => rd_int cx_ok (t := 3) rfl h) h
theorem rd_rows {fuel : Nat} {cs : List Value} {x} (h : DataW.trod enc Try.prog w 0 spare held fuel 43 cs = some x) : ∃ (nl : Bool) (l : List (Bool × List Int)), Rd w cs [.sl nl 1 (tLs l)] :=
  rd_slice cx_ok (t := 43) (e := 23) rfl rfl (by decide) (fun p : Bool × List Int => [tIs p.1 p.2]) (fun _ => rfl) (fun _ _ _ h => by obtain ⟨nl, l, h⟩ := rd_ints h; exact ⟨(nl, l), h⟩) h
theorem rd_strs {fuel : Nat} {cs : List Value} {x} (h : DataW.trod enc Try.prog w 0 spare held fuel 22 cs = some x) : ∃ (nl : Bool) (l : List ByteArray), Rd w cs [.sl nl 1 (l.map tS)] :=
  rd_slice cx_ok (t := 22) (e := 9) rfl rfl (by decide) tS (fun _ => rfl) (fun _ _ _ h => rd_str cx_ok (t := 9) rfl h) h
theorem rd_eff {fuel : Nat} {cs : List Value} {x} (h : DataW.trod enc Try.prog w 0 spare held fuel 98 cs = some x) : ∃ e : Eff, Rd w cs (tEff e) := by
  obtain ⟨hl, hf⟩ := rd_struct cx_ok (t := 98) rfl h
  obtain ⟨n0, y0, h0⟩ := hf 0 24 _ (by decide) rfl
  obtain ⟨n1, y1, h1⟩ := hf 1 50 _ (by decide) rfl
  obtain ⟨nl, a, ha⟩ := rd_lits h0
  obtain ⟨b, hb⟩ := rd_lit h1
  refine ⟨⟨nl, a, b⟩, hl, fun i x v hx hv => ?_⟩
  match i with
  | 0 => exact ha.part 0 x v hx hv
  | 1 => exact hb.part 0 x v hx hv
  | 2 => exact hb.part 1 x v hx hv
  | i + 3 => simp [tEff] at hx
theorem rd_effs {fuel : Nat} {cs : List Value} {x} (h : DataW.trod enc Try.prog w 0 spare held fuel 77 cs = some x) : ∃ (nl : Bool) (l : List Eff), Rd w cs [.sl nl 3 (l.map tEff)] :=
  rd_slice cx_ok (t := 77) (e := 98) rfl rfl (by decide) tEff (fun _ => rfl) (fun _ _ _ h => rd_eff h) h
theorem rd_act {fuel : Nat} {cs : List Value} {x} (h : DataW.trod enc Try.prog w 0 spare held fuel 79 cs = some x) : ∃ e : Actn, Rd w cs (tAct e) := by
  obtain ⟨hl, hf⟩ := rd_struct cx_ok (t := 79) rfl h
  obtain ⟨n0, y0, h0⟩ := hf 0 9 _ (by decide) rfl
  obtain ⟨n1, y1, h1⟩ := hf 1 3 _ (by decide) rfl
  obtain ⟨n2, y2, h2⟩ := hf 2 24 _ (by decide) rfl
  obtain ⟨n3, y3, h3⟩ := hf 3 77 _ (by decide) rfl
  obtain ⟨a, ha⟩ := rd_str cx_ok (t := 9) rfl h0
  obtain ⟨b, hb⟩ := rd_int cx_ok (t := 3) rfl h1
  obtain ⟨nc, c, hc⟩ := rd_lits h2
  obtain ⟨nd, d, hd⟩ := rd_effs h3
  refine ⟨⟨a, b, nc, c, nd, d⟩, hl, fun i x v hx hv => ?_⟩
  match i with
  | 0 => exact ha.part 0 x v hx hv
  | 1 => exact hb.part 0 x v hx hv
  | 2 => exact hc.part 0 x v hx hv
  | 3 => exact hd.part 0 x v hx hv
  | i + 4 => simp [tAct] at hx
theorem rd_acts {fuel : Nat} {cs : List Value} {x} (h : DataW.trod enc Try.prog w 0 spare held fuel 25 cs = some x) : ∃ (nl : Bool) (l : List Actn), Rd w cs [.sl nl 4 (l.map tAct)] :=
  rd_slice cx_ok (t := 25) (e := 79) rfl rfl (by decide) tAct (fun _ => rfl) (fun _ _ _ h => rd_act h) h
theorem rd_task {fuel : Nat} {cs : List Value} {x} (h : DataW.trod enc Try.prog w 0 spare held fuel 27 cs = some x) : ∃ t : Task, Rd w cs (tTask t) := by
  obtain ⟨hl, hf⟩ := rd_struct cx_ok (t := 27) rfl h
  obtain ⟨n0, y0, h0⟩ := hf 0 22 _ (by decide) rfl
  obtain ⟨n1, y1, h1⟩ := hf 1 23 _ (by decide) rfl
  obtain ⟨n2, y2, h2⟩ := hf 2 24 _ (by decide) rfl
  obtain ⟨n3, y3, h3⟩ := hf 3 25 _ (by decide) rfl
  obtain ⟨na, a, ha⟩ := rd_strs h0
  obtain ⟨nb, b, hb⟩ := rd_ints h1
  obtain ⟨nc, c, hc⟩ := rd_lits h2
  obtain ⟨nd, d, hd⟩ := rd_acts h3
  refine ⟨⟨na, a, nb, b, nc, c, nd, d⟩, hl, fun i x v hx hv => ?_⟩
  match i with
  | 0 => exact ha.part 0 x v hx hv
  | 1 => exact hb.part 0 x v hx hv
  | 2 => exact hc.part 0 x v hx hv
  | 3 => exact hd.part 0 x v hx hv
  | i + 4 => simp [tTask] at hx

theorem laidOut : laidOutB Try.prog = true := by kernel_rfl
theorem own : ownKnob Try.prog.godebug = none := by kernel_rfl

def noKeys : K → Nat := fun _ => 0
theorem start_wr (w : World) : WR (entP noKeys (oldB w) w) noKeys (oldB w) ⟨[], []⟩ w := by
  have hno : ∀ k o, St.get ⟨[], []⟩ k = some o → False := by
    intro k
    induction k with
    | cur s => intro o h; simp [St.get, look] at h
    | fr i s => intro o h; simp [St.get] at h
    | sub k i ih => intro o h; obtain ⟨_, _, _, _, _, hg, _⟩ := St.get_sub h; exact ih _ hg
  exact ⟨rfl, rfl, rfl, Nat.le_refl _, fun _ _ _ => rfl, fun _ h => h, fun _ h => h, fun _ h => .inl h, fun k o hk => (hno k o hk).elim, fun k o hk => (hno k o hk).elim, fun k _ o _ hk => (hno k o hk).elim, fun k o hk => (hno k o hk).elim, fun k o hk => (hno k o hk).elim, fun _ _ _ => rfl⟩

theorem vl_task {t : Task} {v : Value} (h : Rd w v.cells.toList (tTask t)) (hv : ∃ cs, v = .agg cs) : VL noKeys (oldB w) w (.task t) v := by
  obtain ⟨cs, rfl⟩ := hv
  have h' : Rd w cs.toList (tTask t) := h
  obtain ⟨h1, h2⟩ := h'
  rw [show cs = cs.toList.toArray by simp]
  generalize cs.toList = l at h1 h2
  match l, h1 with
  | [a, b, c, d], _ =>
    have g0 := h2 0 _ a rfl rfl
    have g1 := h2 1 _ b rfl rfl
    have g2 := h2 2 _ c rfl rfl
    have g3 := h2 3 _ d rfl rfl
    refine .agg _ _ rfl (fun i x v hx hv => ?_) fun v hv => ?_
    · match i with
      | 0 => simp at hx hv; subst hx; subst hv; exact .t _ _ g0
      | 1 => simp at hx hv; subst hx; subst hv; exact .t _ _ g1
      | 2 => simp at hx hv; subst hx; subst hv; exact .t _ _ g2
      | 3 => simp at hx hv; subst hx; subst hv; exact .t _ _ g3
      | i + 4 => simp at hx
    · simp at hv
      rcases hv with rfl | rfl | rfl | rfl
      · exact g0.one
      · exact g1.one
      · exact g2.one
      · exact g3.one
theorem vl_ints {nl : Bool} {s : List Int} {v : Value} (h : Rd w v.cells.toList [.sl nl 1 (s.map tI)]) (hv : ∃ a b c, v = .slice a b c) : VL noKeys (oldB w) w (.ints nl s) v := by
  obtain ⟨a, b, c, rfl⟩ := hv
  exact .t _ _ (h.2 0 _ _ rfl rfl)

theorem wr_below {β' RO' out ro w'} (h : WR (entP noKeys (oldB w) w) β' RO' ⟨out, ro⟩ w') : Go.RowKit.Below w.heap.size w w' := ⟨h.os, h.tape, h.output, h.size, fun k hk => h.keep k hk fun hf => hf⟩
theorem vl_true {β' RO' w' v} (h : VL β' RO' w' (.bool true) v) : v = .bool true := h.v_inv
end

theorem und27 : ∃ fs, Try.prog.underlying 27 = some (.struct fs) := by
  obtain ⟨d, h1, h2⟩ := und_ty cx_ok (t := 27) rfl
  cases d <;> simp [descOf] at h2
  exact ⟨_, h1⟩
theorem und23 : Try.prog.underlying 23 = some (.slice 3) := by kernel_rfl
theorem und4 : Try.prog.underlying 4 = some .bool := by kernel_rfl

section
variable {w : World}
theorem vl_sl {nl : Bool} {sz : Nat} {es : List (List T)} {v : Value} (h : Rd w v.cells.toList [.sl nl sz es]) (hv : ∃ a b c, v = .slice a b c) : VL noKeys (oldB w) w (.t (.sl nl sz es)) v := by
  obtain ⟨a, b, c, rfl⟩ := hv
  exact .t _ _ (h.2 0 _ _ rfl rfl)
end
theorem vl_num {β : K → Nat} {RO : Nat → Prop} {w : World} {k : IntKind} {n : Int} {v : Value} (h : v = .int k n) : VL β RO w (.t (.v (.int k n))) v := by
  rw [h]; exact .t _ _ (.v _ rfl)
theorem okWide_num {P : Program} {w : World} {r : Reach} {base : Nat} {t : TypeId} {v : Value} {k : IntKind} (ht : P.underlying t = some (.int k)) (h : Value.okWide P w r base t v) : ∃ n, v = .int k n ∧ k.has n := by
  simp only [Value.okWide, ht, Cell.okWide] at h
  cases v <;> simp_all [Cell.ok]
theorem u8_in {n : Int} (h : IntKind.has .u8 n) : 0 ≤ n ∧ n ≤ 255 := h
theorem und24 : Try.prog.underlying 24 = some (.slice 50) := by kernel_rfl
theorem und43 : Try.prog.underlying 43 = some (.slice 23) := by kernel_rfl
theorem und3 : Try.prog.underlying 3 = some (.int .i64) := by kernel_rfl
theorem und5 : Try.prog.underlying 5 = some (.int .u8) := by kernel_rfl

section
variable {H : Type} {enc : TypeId × Value → H} {P : Program} {w : World} {base : Nat} {spare : Nat → Bool} {held : Bool}
theorem trodAll_five {t0 t1 t2 t3 t4 : TypeId} {args : Array Value} {ds : List (DataW H)} {ps : List MemPlace} (h : DataW.TrodAll enc P w base spare held [t0, t1, t2, t3, t4] args.toList ds ps) :
    ∃ v0 v1 v2 v3 v4 d0 d1 d2 d3 d4 p0 p1 p2 p3 p4, args = #[v0, v1, v2, v3, v4] ∧ ds = [d0, d1, d2, d3, d4] ∧ ps = p0 ++ p1 ++ p2 ++ p3 ++ p4 ∧ DataW.Trod enc P w base spare held t0 v0 d0 p0 ∧ DataW.Trod enc P w base spare held t1 v1 d1 p1 ∧ DataW.Trod enc P w base spare held t2 v2 d2 p2 ∧ DataW.Trod enc P w base spare held t3 v3 d3 p3 ∧ DataW.Trod enc P w base spare held t4 v4 d4 p4 := by
  obtain ⟨v0, w0, d0, e0, p0, q0, hargs, rfl, rfl, h0, k0⟩ := trodAll_cons h
  obtain ⟨v1, w1, d1, e1, p1, q1, rfl, rfl, rfl, h1, k1⟩ := trodAll_cons k0
  obtain ⟨v2, w2, d2, e2, p2, q2, rfl, rfl, rfl, h2, k2⟩ := trodAll_cons k1
  obtain ⟨v3, w3, d3, e3, p3, q3, rfl, rfl, rfl, h3, k3⟩ := trodAll_cons k2
  obtain ⟨v4, w4, d4, e4, p4, q4, rfl, rfl, rfl, h4, k4⟩ := trodAll_cons k3
  obtain ⟨rfl, rfl, rfl⟩ := trodAll_nil k4
  exact ⟨v0, v1, v2, v3, v4, d0, d1, d2, d3, d4, p0, p1, p2, p3, p4, by cases args; simp_all, rfl, by simp, h0, h1, h2, h3, h4⟩
theorem trodAll_mk5 {t0 t1 t2 t3 t4 : TypeId} {v0 v1 v2 v3 v4 : Value} {d0 d1 d2 d3 d4 : DataW H} {p0 p1 p2 p3 p4 : List MemPlace} (h0 : DataW.Trod enc P w base spare held t0 v0 d0 p0) (h1 : DataW.Trod enc P w base spare held t1 v1 d1 p1) (h2 : DataW.Trod enc P w base spare held t2 v2 d2 p2) (h3 : DataW.Trod enc P w base spare held t3 v3 d3 p3) (h4 : DataW.Trod enc P w base spare held t4 v4 d4 p4) :
    DataW.TrodAll enc P w base spare held [t0, t1, t2, t3, t4] [v0, v1, v2, v3, v4] [d0, d1, d2, d3, d4] (p0 ++ (p1 ++ (p2 ++ (p3 ++ p4)))) := ⟨p0, p1 ++ (p2 ++ (p3 ++ p4)), h0, trodAll_mk4 h1 h2 h3 h4, rfl⟩
end

/-! ### How long a slice is that the form reads -/
theorem vt_len {RO : Nat → Prop} {w : World} {nl : Bool} {sz : Nat} {es : List (List T)} {a : Option Addr} {len cap : Nat} (h : VT RO w (.sl nl sz es) (.slice a len cap)) : es.length ≤ len := by
  cases h <;> simp
section
variable {H : Type} {enc : TypeId × Value → H} {w : World} {spare : Nat → Bool} {held : Bool}
theorem sized_len {nl : Bool} {sz t e : Nat} {es : List (List T)} {v : Value} {fuel : Nat} {d : DataW H} {p : List MemPlace} {ts : List TypeId} {ds : List (DataW H)} {j : Nat} {n : Nat}
    (ht : Try.prog.underlying t = some (.slice e)) (hr : Rd w v.cells.toList [.sl nl sz es]) (hq : DataW.trod enc Try.prog w 0 spare held fuel t v.cells.toList = some (d, p))
    (hs : (DataW.weightsEach Try.prog ts ds).all (· ≤ reachBytes) = true) (h1 : ts[j]? = some t) (h2 : ds[j]? = some d) (hb : reachBytes ≤ n * Try.prog.bytesOf e) (h0 : 0 < Try.prog.bytesOf e) : es.length ≤ n := by
  rcases Go.Deep.open_slice ht hq with ⟨hc, _⟩ | ⟨a, len, cap, m, k, D, Pl, hc, _, _, _, _, hx, _⟩
  · rw [hc] at hr
    have := vt_len (hr.2 0 _ _ rfl rfl)
    omega
  · rw [hc] at hr
    have h3 := vt_len (hr.2 0 _ _ rfl rfl)
    obtain ⟨rfl, _⟩ := Prod.mk.inj hx
    have h4 := sized_slice hs h1 h2 ht
    rw [List.length_map, List.length_range] at h4
    have h5 := Nat.le_trans h4 hb
    have h6 := Nat.le_of_mul_le_mul_right h5 h0
    omega
end

end Go.Fw

/- Tasks that can be read, and how long their lists are. -/
namespace Go.Fw
open Go Go.Proofs Go.ChangeShapes Go.WideShapes Go.ChangeAt Go.RowKit

section
variable {C : Ctx} {P : Program} (hC : C.OK P) {H : Type} {enc : TypeId × Value → H} {w : World} {spare : Nat → Bool} {held : Bool}
/-- Nothing that is read is too large. -/
def Wb (P : Program) (t : TypeId) (d : DataW H) : Prop := ∀ n ∈ d.weights P t, n ≤ reachBytes
omit hC in
theorem wb_all {e : TypeId} : ∀ {l : List (DataW H)}, (∀ n ∈ DataW.weightsAll P e l, n ≤ reachBytes) → ∀ d ∈ l, Wb P e d
  | [], _, d, hd => by cases hd
  | x :: r, h, d, hd => by
    simp only [DataW.weightsAll, List.mem_append] at h
    rcases List.mem_cons.1 hd with rfl | hd
    · exact fun n hn => h n (.inl hn)
    · exact wb_all (fun n hn => h n (.inr hn)) d hd
omit hC in
theorem wb_each : ∀ {ts : List TypeId} {ds : List (DataW H)}, (∀ n ∈ DataW.weightsEach P ts ds, n ≤ reachBytes) → ∀ (i : Nat) (t : TypeId) (d : DataW H), ts[i]? = some t → ds[i]? = some d → Wb P t d
  | [], _, _, i, t, d, ht, _ => by simp at ht
  | t0 :: ts, [], _, i, t, d, _, hd => by simp at hd
  | t0 :: ts, d0 :: ds, h, i, t, d, ht, hd => by
    simp only [DataW.weightsEach, List.mem_append] at h
    cases i with
    | zero => simp at ht hd; subst ht hd; exact fun n hn => h n (.inl hn)
    | succ i => exact wb_each (fun n hn => h n (.inr hn)) i t d (by simpa using ht) (by simpa using hd)
include hC
theorem rds_struct {t : Nat} {fs s b z} (ht : C.ty t = some ⟨.struct fs, s, b, z⟩) {fuel : Nat} {cs : List Value} {d : DataW H} {p : List MemPlace} (h : DataW.trod enc P w 0 spare held fuel t cs = some (d, p)) (hw : Wb P t d) :
    cs.length = s ∧ ∀ off ft ti, (off, ft) ∈ fs → C.ty ft = some ti → ∃ n d' p', DataW.trod enc P w 0 spare held n ft ((cs.drop off).take ti.size) = some (d', p') ∧ Wb P ft d' := by
  obtain ⟨dd, h1, h2⟩ := und_ty hC ht
  cases dd <;> simp [descOf] at h2
  rename_i fl
  obtain ⟨xs, n, _, hx0, hl, hlen, hf⟩ := DataW.trod_struct h1 h
  obtain ⟨rfl, _⟩ := Prod.mk.inj hx0
  refine ⟨by rw [hl, cellsOf_ty hC ht], fun off ft ti hm hti => ?_⟩
  have : (off, ft) ∈ fl.toList.map fun f => (f.offset, f.type) := by rw [← h2] at hm; simpa using hm
  obtain ⟨f, hfm, hfe⟩ := List.mem_map.1 this
  simp only [Prod.mk.injEq] at hfe
  obtain ⟨i, hi, hie⟩ := List.getElem_of_mem hfm
  have hfi : fl[i]? = some f := by rw [← hie]; simp at hi ⊢
  have hx := hf i f hfi
  have hil : i < xs.length := by rw [hlen]; simpa using hi
  rw [List.getElem?_eq_getElem hil, hfe.1, hfe.2, cellsOf_ty hC hti] at hx
  refine ⟨n, xs[i].1, xs[i].2, hx, ?_⟩
  simp only [Wb, DataW.weights, h1] at hw
  refine wb_each hw i ft _ ?_ (by rw [List.getElem?_map, List.getElem?_eq_getElem hil]; rfl)
  rw [List.getElem?_map, show fl.toList[i]? = fl[i]? by simp, hfi]
  simp [hfe.2]
theorem rds_slice {t e : Nat} {s b z} {ti : TI} (ht : C.ty t = some ⟨.slice e, s, b, z⟩) (hti : C.ty e = some ti) (h0 : 0 < ti.size) {α : Type} (f : α → List T) (hf : ∀ a, (f a).length = ti.size) (S : α → Prop) (N : Nat)
    (hN : ∀ n : Nat, n * P.bytesOf e ≤ reachBytes → n ≤ N)
    (he : ∀ fuel cs d p, DataW.trod enc P w 0 spare held fuel e cs = some (d, p) → Wb P e d → ∃ a, Rd w cs (f a) ∧ S a) {fuel : Nat} {cs : List Value} {d : DataW H} {p : List MemPlace} (h : DataW.trod enc P w 0 spare held fuel t cs = some (d, p)) (hw : Wb P t d) :
    ∃ (nl : Bool) (l : List α), Rd w cs [.sl nl ti.size (l.map f)] ∧ l.length ≤ N ∧ ∀ a ∈ l, S a := by
  obtain ⟨dd, h1, h2⟩ := und_ty hC ht
  cases dd <;> simp [descOf] at h2
  subst h2
  rcases Go.Deep.open_slice h1 h with ⟨rfl, _⟩ | ⟨a, len, cap, m, n, D, Pl, rfl, _, hlc, hcm, hm, hxx, hel⟩
  · exact ⟨true, [], .one (.nil _), Nat.zero_le _, fun a ha => by cases ha⟩
  obtain ⟨rfl, _⟩ := Prod.mk.inj hxx
  simp only [Wb, DataW.weights, h1, List.mem_cons, List.mem_append] at hw
  have hlN : len ≤ N := hN len (by
    have := hw _ (.inl rfl)
    rw [List.length_map, List.length_range] at this
    exact Nat.le_trans (Nat.mul_le_mul_right _ (Nat.le_add_right _ _)) this)
  have hwe := wb_all (l := (List.range len).map D) fun n hn => hw n (.inr (.inl hn))
  rw [cellsOf_ty hC hti] at hel
  have hlm : len ≤ m := by rw [hm]; split <;> omega
  obtain ⟨l, hl1, hl2⟩ := build_list (p := fun i a' => ∃ cs', w.cells? 0 (a.add (i * ti.size)) ti.size = some cs' ∧ Rd w cs' (f a') ∧ S a') len fun i hi => by
    obtain ⟨cs', h3, h4⟩ := hel i (by omega)
    obtain ⟨a', ha, ha2⟩ := he _ _ _ _ h4 (hwe _ (List.mem_map.2 ⟨i, List.mem_range.2 hi, rfl⟩))
    exact ⟨a', cs', h3, ha, ha2⟩
  refine ⟨false, l, .one ?_, by rw [hl1]; exact hlN, fun a' ha' => by
    obtain ⟨i, hi⟩ := List.mem_iff_getElem?.1 ha'
    obtain ⟨_, _, _, h⟩ := hl2 i a' hi
    exact h⟩
  cases hl : l with
  | nil =>
    have : len = 0 := by rw [← hl1, hl]; rfl
    subst this
    exact .emp _ _ _ hcm
  | cons a0 r =>
    rw [← hl]
    have hlen : (l.map f).length = len := by simp [hl1]
    have h00 : l[0]? = some a0 := by rw [hl]; rfl
    obtain ⟨c0, hc0, _, _⟩ := hl2 0 a0 h00
    obtain ⟨_, _, hcell0⟩ := World.cells?_some hc0
    have hsome : ∀ i c', w.cells? 0 (a.add (i * ti.size)) ti.size = some c' → ∀ j, j < ti.size → ∃ v, w.cell? ((a.add (i * ti.size)).add j) = some v ∧ c'[j]? = some v := by
      intro i c' hc j hj
      obtain ⟨_, hcl, hcc⟩ := World.cells?_some hc
      have := hcc j hj
      rw [List.getElem?_eq_getElem (by omega)] at this
      exact ⟨_, this, List.getElem?_eq_getElem (by omega)⟩
    obtain ⟨v00, hv00, _⟩ := hsome 0 c0 hc0 0 h0
    have hspot : a.spot = none := by
      simp only [Nat.zero_mul] at hv00
      have e : (a.add 0).add 0 = a := by simp [Addr.add]
      rw [e] at hv00
      unfold World.cell? at hv00
      split at hv00
      · split at hv00
        · cases hv00
        · rename_i hs; simpa using hs
      · cases hv00
    obtain ⟨ab, ao, asp⟩ := a
    simp only at hspot
    subst hspot
    have hadd : ∀ i j, ((⟨ab, ao, none⟩ : Addr).add i).add j = ⟨ab, ao + (i + j), none⟩ := by
      intro i j
      unfold Addr.add
      by_cases hi : i = 0 <;> by_cases hj : j = 0 <;> simp [hi, hj, Nat.add_assoc]
    have hblk : ab < w.heap.size := by
      rw [hadd] at hv00
      unfold World.cell? at hv00
      cases hb : w.heap[ab]? with
      | none => simp [hb] at hv00
      | some o => exact (Array.getElem?_eq_some_iff.1 hb).1
    have hmain : ∀ (i : Nat) (el : List T) (j : Nat) (x : T), (l.map f)[i]? = some el → el[j]? = some x → ∃ v, w.cell? ⟨ab, ao + (i * ti.size + j), none⟩ = some v ∧ VT (oldB w) w x v := by
      intro i el j x hi hj
      rw [List.getElem?_map] at hi
      cases hli : l[i]? with
      | none => simp [hli] at hi
      | some a' =>
        simp [hli] at hi
        subst hi
        obtain ⟨cs', hc, hrd, _⟩ := hl2 i a' hli
        have hjl : j < ti.size := by have := (List.getElem?_eq_some_iff.1 hj).1; rw [hf] at this; exact this
        obtain ⟨v, hv1, hv2⟩ := hsome i cs' hc j hjl
        rw [hadd] at hv1
        exact ⟨v, hv1, hrd.2 j x v hj hv2⟩
    rw [← hlen] at hlc ⊢
    refine .sl _ _ ab ao cap (fun i j => (w.cell? ⟨ab, ao + (i * ti.size + j), none⟩).getD (.bool false)) (fun _ => hblk) hlc hcm (fun i el hi => ?_) (fun i el j x hi hj => ?_) fun i el j x hi hj => ?_
    · rw [List.getElem?_map] at hi
      cases hli : l[i]? with
      | none => simp [hli] at hi
      | some a' => simp [hli] at hi; rw [← hi]; exact hf a'
    · obtain ⟨v, h3, _⟩ := hmain i el j x hi hj
      rw [h3]; rfl
    · obtain ⟨v, h3, h4⟩ := hmain i el j x hi hj
      rw [h3]; exact h4
end

section
variable {H : Type} {enc : TypeId × Value → H} {w : World} {spare : Nat → Bool} {held : Bool}
theorem bnd {b k N n : Nat} (h : b = k) (hk : 0 < k) (hN : reachBytes / k = N) (hn : n * b ≤ reachBytes) : n ≤ N := by
  subst h; subst hN; exact (Nat.le_div_iff_mul_le hk).2 hn
theorem rds_lits {fuel : Nat} {cs : List Value} {d : DataW H} {p : List MemPlace} (h : DataW.trod enc Try.prog w 0 spare held fuel 24 cs = some (d, p)) (hw : Wb Try.prog 24 d) : ∃ (nl : Bool) (l : List Lit), Rd w cs [.sl nl 2 (l.map tLit)] ∧ l.length ≤ 8796093021952 := by
  obtain ⟨nl, l, h1, h2, _⟩ := rds_slice cx_ok (t := 24) (e := 50) rfl rfl (by decide) tLit (fun _ => rfl) (fun _ => True) 8796093021952 (fun _ hn => bnd (k := 16) (by kernel_rfl) (by decide) (by decide) hn) (fun _ _ _ _ h _ => by obtain ⟨a, ha⟩ := rd_lit h; exact ⟨a, ha, trivial⟩) h hw
  exact ⟨nl, l, h1, h2⟩
theorem rds_ints {fuel : Nat} {cs : List Value} {d : DataW H} {p : List MemPlace} (h : DataW.trod enc Try.prog w 0 spare held fuel 23 cs = some (d, p)) (hw : Wb Try.prog 23 d) : ∃ (nl : Bool) (l : List Int), Rd w cs [.sl nl 1 (l.map tI)] ∧ l.length ≤ 17592186043904 := by
  obtain ⟨nl, l, h1, h2, _⟩ := rds_slice cx_ok (t := 23) (e := 3) rfl rfl (by decide) tI (fun _ => rfl) (fun _ => True) 17592186043904 (fun _ hn => bnd (k := 8) (by kernel_rfl) (by decide) (by decide) hn) (fun _ _ _ _ h _ => by obtain ⟨a, ha⟩ := rd_int cx_ok (t := 3) rfl h; exact ⟨a, ha, trivial⟩) h hw
  exact ⟨nl, l, h1, h2⟩
theorem rds_strs {fuel : Nat} {cs : List Value} {d : DataW H} {p : List MemPlace} (h : DataW.trod enc Try.prog w 0 spare held fuel 22 cs = some (d, p)) (hw : Wb Try.prog 22 d) : ∃ (nl : Bool) (l : List ByteArray), Rd w cs [.sl nl 1 (l.map tS)] ∧ l.length ≤ 8796093021952 := by
  obtain ⟨nl, l, h1, h2, _⟩ := rds_slice cx_ok (t := 22) (e := 9) rfl rfl (by decide) tS (fun _ => rfl) (fun _ => True) 8796093021952 (fun _ hn => bnd (k := 16) (by kernel_rfl) (by decide) (by decide) hn) (fun _ _ _ _ h _ => by obtain ⟨a, ha⟩ := rd_str cx_ok (t := 9) rfl h; exact ⟨a, ha, trivial⟩) h hw
  exact ⟨nl, l, h1, h2⟩
theorem rds_eff {fuel : Nat} {cs : List Value} {d : DataW H} {p : List MemPlace} (h : DataW.trod enc Try.prog w 0 spare held fuel 98 cs = some (d, p)) (hw : Wb Try.prog 98 d) : ∃ e : Eff, Rd w cs (tEff e) ∧ e.when_.length ≤ 8796093021952 := by
  obtain ⟨hl, hf⟩ := rds_struct cx_ok (t := 98) rfl h hw
  obtain ⟨n0, d0, p0, h0, w0⟩ := hf 0 24 _ (by decide) rfl
  obtain ⟨n1, d1, p1, h1, _⟩ := hf 1 50 _ (by decide) rfl
  obtain ⟨nl, a, ha, ha2⟩ := rds_lits h0 w0
  obtain ⟨b, hb⟩ := rd_lit h1
  refine ⟨⟨nl, a, b⟩, ⟨hl, fun i x v hx hv => ?_⟩, ha2⟩
  match i with
  | 0 => exact ha.part 0 x v hx hv
  | 1 => exact hb.part 0 x v hx hv
  | 2 => exact hb.part 1 x v hx hv
  | i + 3 => simp [tEff] at hx
theorem rds_act {fuel : Nat} {cs : List Value} {d : DataW H} {p : List MemPlace} (h : DataW.trod enc Try.prog w 0 spare held fuel 79 cs = some (d, p)) (hw : Wb Try.prog 79 d) : ∃ e : Actn, Rd w cs (tAct e) ∧ e.pre.length ≤ 8796093021952 ∧ e.effs.length ≤ 3518437208780 ∧ ∀ x ∈ e.effs, x.when_.length ≤ 8796093021952 := by
  obtain ⟨hl, hf⟩ := rds_struct cx_ok (t := 79) rfl h hw
  obtain ⟨n0, d0, p0, h0, _⟩ := hf 0 9 _ (by decide) rfl
  obtain ⟨n1, d1, p1, h1, _⟩ := hf 1 3 _ (by decide) rfl
  obtain ⟨n2, d2, p2, h2, w2⟩ := hf 2 24 _ (by decide) rfl
  obtain ⟨n3, d3, p3, h3, w3⟩ := hf 3 77 _ (by decide) rfl
  obtain ⟨a, ha⟩ := rd_str cx_ok (t := 9) rfl h0
  obtain ⟨b, hb⟩ := rd_int cx_ok (t := 3) rfl h1
  obtain ⟨nc, c, hc, hc2⟩ := rds_lits h2 w2
  obtain ⟨nd, dd, hd, hd2, hd3⟩ := rds_slice cx_ok (t := 77) (e := 98) rfl rfl (by decide) tEff (fun _ => rfl) (fun e => e.when_.length ≤ 8796093021952) 3518437208780 (fun _ hn => bnd (k := 40) (by kernel_rfl) (by decide) (by decide) hn) (fun _ _ _ _ h hw => rds_eff h hw) h3 w3
  refine ⟨⟨a, b, nc, c, nd, dd⟩, ⟨hl, fun i x v hx hv => ?_⟩, hc2, hd2, hd3⟩
  match i with
  | 0 => exact ha.part 0 x v hx hv
  | 1 => exact hb.part 0 x v hx hv
  | 2 => exact hc.part 0 x v hx hv
  | 3 => exact hd.part 0 x v hx hv
  | i + 4 => simp [tAct] at hx
theorem rds_task {fuel : Nat} {cs : List Value} {d : DataW H} {p : List MemPlace} (h : DataW.trod enc Try.prog w 0 spare held fuel 27 cs = some (d, p)) (hw : Wb Try.prog 27 d) : ∃ t : Task, Rd w cs (tTask t) ∧ TaskS t := by
  obtain ⟨hl, hf⟩ := rds_struct cx_ok (t := 27) rfl h hw
  obtain ⟨n0, d0, p0, h0, w0⟩ := hf 0 22 _ (by decide) rfl
  obtain ⟨n1, d1, p1, h1, w1⟩ := hf 1 23 _ (by decide) rfl
  obtain ⟨n2, d2, p2, h2, w2⟩ := hf 2 24 _ (by decide) rfl
  obtain ⟨n3, d3, p3, h3, w3⟩ := hf 3 25 _ (by decide) rfl
  obtain ⟨na, a, ha, ha2⟩ := rds_strs h0 w0
  obtain ⟨nb, b, hb, hb2⟩ := rds_ints h1 w1
  obtain ⟨nc, c, hc, hc2⟩ := rds_lits h2 w2
  obtain ⟨nd, dd, hd, hd2, hd3⟩ := rds_slice cx_ok (t := 25) (e := 79) rfl rfl (by decide) tAct (fun _ => rfl) (fun e => e.pre.length ≤ 8796093021952 ∧ e.effs.length ≤ 3518437208780 ∧ ∀ x ∈ e.effs, x.when_.length ≤ 8796093021952) 1954687338211 (fun _ hn => bnd (k := 72) (by kernel_rfl) (by decide) (by decide) hn) (fun _ _ _ _ h hw => rds_act h hw) h3 w3
  refine ⟨⟨na, a, nb, b, nc, c, nd, dd⟩, ⟨hl, fun i x v hx hv => ?_⟩, ⟨ha2, hb2, hc2, hd2, fun a ha => (hd3 a ha).1, fun a ha => (hd3 a ha).2.1, fun a ha => (hd3 a ha).2.2⟩⟩
  match i with
  | 0 => exact ha.part 0 x v hx hv
  | 1 => exact hb.part 0 x v hx hv
  | 2 => exact hc.part 0 x v hx hv
  | 3 => exact hd.part 0 x v hx hv
  | i + 4 => simp [tTask] at hx
/-- Nothing that an argument holds is too large. -/
theorem wb_arg {P : Program} {ts : List TypeId} {ds : List (DataW H)} (hs : (DataW.weightsEach P ts ds).all (· ≤ reachBytes) = true) {j : Nat} {t : TypeId} {d : DataW H} (h1 : ts[j]? = some t) (h2 : ds[j]? = some d) : Wb P t d :=
  wb_each (fun n hn => by simpa using List.all_eq_true.1 hs n hn) j t d h1 h2
end

end Go.Fw

/- Texts that lead to the law, part 16. -/
import Derived.Test.YtkccfpgnifdgjaaZK
import Derived.Test.YtkccfpgnifdgjaaRows
import Derived.Carry
import Derived.ProofKit
import Derived.Deep.Slices
import Derived.SizedLaws

/- What the program's functions do: sets, places, keys; closed patterns. -/
namespace Go.Fw
open Go Go.Proofs
set_option maxRecDepth 10000

def kq50 : Kp := [(3, ([3, 7, 8, 9], [48]))]
def kq36 : Kp := [(3, ([3, 7, 8, 9], [48]))]
/-! ### Facts and literals of a pattern -/
def factsL (p l : List Int) : List Int := (l.filter (hasB p)).map (posI p)
def litsL (p : List Int) (l : List Lit) : List Lit := (l.filter fun x => hasB p x.fact).map fun x => ⟨posI p x.fact, x.neg⟩
theorem factsL_step {p l : List Int} {i : Nat} (hi : i < l.length) : factsL p (l.take (i + 1)) = factsL p (l.take i) ++ if hasB p l[i] = true then [posI p l[i]] else [] := by
  simp only [factsL, filter_step hi, List.map_append]
  split <;> simp
theorem factsL_len (p l : List Int) : (factsL p l).length ≤ l.length := by simp [factsL, filter_len]
theorem litsL_step {p : List Int} {l : List Lit} {i : Nat} (hi : i < l.length) : litsL p (l.take (i + 1)) = litsL p (l.take i) ++ if hasB p l[i].fact = true then [⟨posI p l[i].fact, l[i].neg⟩] else [] := by
  rw [litsL, List.take_add_one, List.getElem?_eq_getElem hi, Option.toList_some, List.filter_append, List.map_append]
  simp only [litsL]
  cases h : hasB p l[i].fact <;> simp [h]
theorem litsL_len (p : List Int) (l : List Lit) : (litsL p l).length ≤ l.length := by
  rw [litsL, List.length_map]; exact List.length_filter_le ..

def kq35 : Kp := [(3, ([1, 5, 10, 11, 12], [208]))]
def kq62 : Kp := [(3, ([1, 5, 10, 11, 12], [240]))]
/-! ### Keys -/
def tU (n : Int) : List T := [.v (.int .u8 n)]
theorem nums_tU : ∀ l : List Int, numsOf (l.map tU) = some l
  | [] => rfl
  | x :: r => by simp only [List.map_cons, tU, numsOf]; rw [nums_tU r]
def kq56 : Kp := [(3, ([3, 6, 7, 8], [128]))]
theorem f60_spec (n1 : Bool) (l : List Int) (hl : ∀ x ∈ l, 0 ≤ x ∧ x ≤ 255) (hn : l.length ≤ 1000000000) (out : List Fr) : SpecP Try.prog 60 [.ints n1 l] out fun r ro => r = .t (.v (.string (strOfNums l))) ∧ ro = [] := by
  refine spec_body cx_ok kq56 [] (fn := Try.f60) (by kernel_rfl) rfl (by kernel_rfl) rfl (by unfold FnOK; kernel_rfl) fun hok => ?_
  refine LoopW.mk (Nat × List Int) (fun u => u.1 ≤ l.length ∧ u.2 = l.take u.1) (fun u => [(3, accV 128 1 (u.2.map tU)), (6, .ints n1 l), (7, .int (l.map tI).length), (8, .int u.1)])
    (fun u => ⟨out, accO 128 5 1 (u.2.map tU)⟩) (fun u => l.length - u.1) (0, []) ⟨Nat.zero_le _, rfl⟩ ⟨rfl, rfl⟩ ?_
  rintro ⟨i, L⟩ ⟨hi0, hL⟩
  simp only at hi0 hL
  have hLl : L.length ≤ 1000000000 := by rw [hL, List.length_take]; omega
  cases L
  case' nil => let O : List Int := []
  case' cons y r => let O : List Int := y :: r
  all_goals
    refine And.intro (fun h1 => ?_) fun h1 => ?_
    rotate_left
    · have hi : i = l.length := by have := ge_of_dec h1; have : i ≤ l.length := hi0; omega
      rw [hi, List.take_length] at hL
      have hL' : O = l := hL
      rw [← hL']
      first
        | exact Exists.intro [] (And.intro rfl (Exists.intro [] ⟨rfl, rfl⟩))
        | (refine And.intro (by simp) (Exists.intro O (And.intro ?_ (Exists.intro [] ⟨rfl, rfl⟩)))
           show numsOf ((((y :: r).map tU).drop 0).take ((y :: r).map tU).length) = some (y :: r)
           rw [← take_all, nums_tU])
    have hi := lt_of_dec h1
    have hx := hl _ (List.getElem_mem hi)
    have stp : l.take (i + 1) = l.take i ++ [l[i]] := by rw [List.take_add_one, List.getElem?_eq_getElem hi]; rfl
    rw [← hL] at stp
    refine And.intro (by omega) (Exists.intro _ (And.intro (get_map hi) ?_))
    refine And.intro hx.1 (And.intro hx.2 ?_)
    have hl4 : ∀ X : List T, ((O.map tU) ++ [X]).length ≤ 1000000001 := fun X => by
      have : O.length ≤ 1000000000 := hLl
      rw [List.length_append, List.length_map, List.length_singleton]; omega
    repeat first
      | refine And.intro (Nat.le_of_ble_eq_true rfl) ?_
      | refine And.intro rfl ?_
      | refine And.intro (Nat.le_trans (Nat.mul_le_mul_right _ (hl4 _)) (Nat.le_of_ble_eq_true rfl)) ?_
      | refine And.intro (Nat.le_trans (hl4 _) (Nat.le_of_ble_eq_true rfl)) ?_
    refine And.intro (by show (-9223372036854775808 : Int) ≤ (i : Int) + 1; omega) (And.intro (by show (i : Int) + 1 ≤ 9223372036854775807; omega) ?_)
    first
      | exact Exists.intro (i + 1, [l[i]]) (And.intro (by show l.length - (i + 1) < l.length - i; omega) (And.intro ⟨hi, stp.symm⟩ (And.intro rfl rfl)))
      | (refine Exists.intro (i + 1, y :: (r ++ [l[i]])) (And.intro (by show l.length - (i + 1) < l.length - i; omega) (And.intro ⟨hi, stp.symm⟩ ?_))
         have e : (r ++ [l[i]]).map tU = r.map tU ++ [tU l[i]] := by simp
         simp only [List.map_cons, e]
         exact And.intro rfl rfl)

end Go.Fw

/- What the program's functions do: closed patterns, and what is asked of patterns. -/
namespace Go.Fw
open Go Go.Proofs
set_option maxRecDepth 10000

abbrev cellsAct (a : Actn) : List LV := [.t (.v (.string a.name)), .t (.v (.int .i64 a.cost)), .t (.sl a.pn 2 (a.pre.map tLit)), .t (.sl a.en 3 (a.effs.map tEff))]
abbrev cellsEff (e : Eff) : List LV := [.t (.sl e.nil 2 (e.when_.map tLit)), .t (.v (.int .i64 e.lit.fact)), .t (.v (.bool e.lit.neg))]
abbrev LV.mapK (k : K) : LV := .mpr k

/-- Is nothing asked of other facts? -/
def clE (p : List Int) (e : Eff) : Bool := !(hasB p e.lit.fact && e.when_.any fun l => !hasB p l.fact)
def closedB (t : Task) (p : List Int) : Bool := t.acts.all fun a => a.effs.all (clE p)
theorem closedB_congr {t : Task} {p q : List Int} (h : ∀ x, hasB p x = hasB q x) : closedB t p = closedB t q := by
  have e : clE p = clE q := by funext e; simp only [clE, h]
  simp only [closedB, e]

def kq49 : Kp := [(2, ([3, 10, 11, 12], [16, 24])), (5, ([3, 10, 11, 12, 17, 18, 19], [16, 24]))]
def fineB (t : Task) (w : Bool) (p : List Int) : Bool := risingB p t.facts.length && (!w || closedB t p)
def oq66 : Od := [(1, [(0, .pure), (1, .pure), (2, .pure), (3, .pure), (4, .eff), (5, .pure), (6, .pure), (7, .pure), (8, .pure), (9, .pure), (10, .pure), (11, .eff), (12, .eff), (13, .pure), (14, .pure), (15, .pure)])]
end Go.Fw

/- What the program's functions do: the errors of patterns. -/
namespace Go.Fw
open Go Go.Proofs
set_option maxRecDepth 10000

def tLs (l : List (Bool × List Int)) : List (List T) := l.map fun p => [tIs p.1 p.2]
theorem tLs_get {l : List (Bool × List Int)} {i : Nat} (h : i < l.length) : (tLs l)[((i : Int)).toNat]? = some [tIs l[i].1 l[i].2] := by simp [tLs, h]
theorem tLs_len (l : List (Bool × List Int)) : (tLs l).length = l.length := List.length_map ..

def kq79 : Kp := [(2, ([0, 1, 7, 8], []))]
def asksI (t : Task) (w : Bool) (l : List (Bool × List Int)) : Int := if isB t = true then (if (l.any fun p => !fineB t w p.2) = true then 1 else 0) else 10
def givenI (t : Task) (s : List Int) (l : List (Bool × List Int)) : Int := if fineI t s = 0 then asksI t true l else fineI t s
def oq24 : Od := [(4, [(0, .pure), (1, .pure), (2, .eff), (3, .eff), (4, .pure), (5, .pure)])]
end Go.Fw

/- The row: arguments that can be read are closed data; a contract of a law gives its row. -/
namespace Go.Fw
open Go Go.Proofs Go.ChangeShapes Go.WideShapes Go.ChangeAt Go.RowKit

abbrev oldB (w : World) : Nat → Prop := fun b => b < w.heap.size
def Rd (w : World) (cs : List Value) (ts : List T) : Prop := cs.length = ts.length ∧ ∀ (i : Nat) (x : T) (v : Value), ts[i]? = some x → cs[i]? = some v → VT (oldB w) w x v

section
variable {C : Ctx} {P : Program} (hC : C.OK P) {H : Type} {enc : TypeId × Value → H} {w : World} {spare : Nat → Bool} {held : Bool}
include hC

theorem cellsOf_ty {t : Nat} {i : TI} (h : C.ty t = some i) : P.cellsOf t = i.size := by
  obtain ⟨j, z, h1, h2, _⟩ := (hC.ty h).info
  simp [Program.cellsOf, h1, h2]

theorem und_ty {t : Nat} {i : TI} (h : C.ty t = some i) : ∃ d, P.underlying t = some d ∧ descOf d = i.d := (hC.ty h).underlying

omit hC in
theorem Rd.one {v : Value} {x : T} (h : VT (oldB w) w x v) : Rd w [v] [x] := ⟨rfl, fun i y u hy hu => by
  cases i with
  | zero => simp at hy hu; subst hy; subst hu; exact h
  | succ i => simp at hy⟩

theorem rd_int {t : Nat} {k : IntKind} {s b z} (ht : C.ty t = some ⟨.int k, s, b, z⟩) {fuel : Nat} {cs : List Value} {x} (h : DataW.trod enc P w 0 spare held fuel t cs = some x) : ∃ n : Int, Rd w cs [.v (.int k n)] := by
  obtain ⟨d, h1, h2⟩ := und_ty hC ht
  cases d <;> simp [descOf] at h2
  subst h2
  obtain ⟨n, rfl, _⟩ := DataW.trod_int h1 h
  exact ⟨n, .one (.v _ rfl)⟩
theorem rd_bool {t : Nat} {s b z} (ht : C.ty t = some ⟨.bool, s, b, z⟩) {fuel : Nat} {cs : List Value} {x} (h : DataW.trod enc P w 0 spare held fuel t cs = some x) : ∃ n : Bool, Rd w cs [.v (.bool n)] := by
  obtain ⟨d, h1, h2⟩ := und_ty hC ht
  cases d <;> simp [descOf] at h2
  obtain ⟨n, rfl, _⟩ := DataW.trod_bool h1 h
  exact ⟨n, .one (.v _ rfl)⟩
theorem rd_str {t : Nat} {s b z} (ht : C.ty t = some ⟨.str, s, b, z⟩) {fuel : Nat} {cs : List Value} {x} (h : DataW.trod enc P w 0 spare held fuel t cs = some x) : ∃ n : ByteArray, Rd w cs [.v (.string n)] := by
  obtain ⟨d, h1, h2⟩ := und_ty hC ht
  cases d <;> simp [descOf] at h2
  obtain ⟨n, rfl, _⟩ := DataW.trod_string h1 h
  exact ⟨n, .one (.v _ rfl)⟩
theorem rd_struct {t : Nat} {fs s b z} (ht : C.ty t = some ⟨.struct fs, s, b, z⟩) {fuel : Nat} {cs : List Value} {x} (h : DataW.trod enc P w 0 spare held fuel t cs = some x) :
    cs.length = s ∧ ∀ off ft ti, (off, ft) ∈ fs → C.ty ft = some ti → ∃ n y, DataW.trod enc P w 0 spare held n ft ((cs.drop off).take ti.size) = some y := by
  obtain ⟨d, h1, h2⟩ := und_ty hC ht
  cases d <;> simp [descOf] at h2
  rename_i fl
  obtain ⟨xs, n, _, rfl, hl, hlen, hf⟩ := DataW.trod_struct h1 h
  refine ⟨by rw [hl, cellsOf_ty hC ht], fun off ft ti hm hti => ?_⟩
  have : (off, ft) ∈ fl.toList.map fun f => (f.offset, f.type) := by rw [← h2] at hm; simpa using hm
  obtain ⟨f, hfm, hfe⟩ := List.mem_map.1 this
  simp only [Prod.mk.injEq] at hfe
  obtain ⟨i, hi, hie⟩ := List.getElem_of_mem hfm
  have hfi : fl[i]? = some f := by rw [← hie]; simp at hi ⊢
  have hx := hf i f hfi
  have hil : i < xs.length := by rw [hlen]; simpa using hi
  rw [List.getElem?_eq_getElem hil, hfe.1, hfe.2, cellsOf_ty hC hti] at hx
  exact ⟨n, _, hx⟩

omit hC in
theorem build_list {α : Type} {p : Nat → α → Prop} : ∀ n : Nat, (∀ i, i < n → ∃ a, p i a) → ∃ l : List α, l.length = n ∧ ∀ i a, l[i]? = some a → p i a
  | 0, _ => ⟨[], rfl, fun i a h => by simp at h⟩
  | n + 1, h => by
    obtain ⟨l, h1, h2⟩ := build_list n fun i hi => h i (by omega)
    obtain ⟨a, ha⟩ := h n (by omega)
    refine ⟨l ++ [a], by simp [h1], fun i b hb => ?_⟩
    by_cases hi : i < n
    · rw [List.getElem?_append_left (by omega)] at hb; exact h2 i b hb
    · have : i = n := by have := (List.getElem?_eq_some_iff.1 hb).1; simp at this; omega
      subst this
      rw [List.getElem?_append_right (by omega), h1, Nat.sub_self] at hb
      simp at hb; subst hb; exact ha

theorem rd_slice {t e : Nat} {s b z} {ti : TI} (ht : C.ty t = some ⟨.slice e, s, b, z⟩) (hti : C.ty e = some ti) (h0 : 0 < ti.size) {α : Type} (f : α → List T) (hf : ∀ a, (f a).length = ti.size)
    (he : ∀ fuel cs x, DataW.trod enc P w 0 spare held fuel e cs = some x → ∃ a, Rd w cs (f a)) {fuel : Nat} {cs : List Value} {x} (h : DataW.trod enc P w 0 spare held fuel t cs = some x) :
    ∃ (nl : Bool) (l : List α), Rd w cs [.sl nl ti.size (l.map f)] := by
  obtain ⟨d, h1, h2⟩ := und_ty hC ht
  cases d <;> simp [descOf] at h2
  subst h2
  rcases Go.Deep.open_slice h1 h with ⟨rfl, _⟩ | ⟨a, len, cap, m, n, D, Pl, rfl, _, hlc, hcm, hm, _, hel⟩
  · exact ⟨true, [], .one (.nil _)⟩
  rw [cellsOf_ty hC hti] at hel
  have hlm : len ≤ m := by rw [hm]; split <;> omega
  obtain ⟨l, hl1, hl2⟩ := build_list (p := fun i a' => ∃ cs', w.cells? 0 (a.add (i * ti.size)) ti.size = some cs' ∧ Rd w cs' (f a')) len fun i hi => by
    obtain ⟨cs', h3, h4⟩ := hel i (by omega)
    obtain ⟨a', ha⟩ := he _ _ _ h4
    exact ⟨a', cs', h3, ha⟩
  refine ⟨false, l, .one ?_⟩
  cases hl : l with
  | nil =>
    have : len = 0 := by rw [← hl1, hl]; rfl
    subst this
    exact .emp _ _ _ hcm
  | cons a0 r =>
    rw [← hl]
    have hlen : (l.map f).length = len := by simp [hl1]
    have h00 : l[0]? = some a0 := by rw [hl]; rfl
    obtain ⟨c0, hc0, _⟩ := hl2 0 a0 h00
    obtain ⟨_, _, hcell0⟩ := World.cells?_some hc0
    have hsome : ∀ i c', w.cells? 0 (a.add (i * ti.size)) ti.size = some c' → ∀ j, j < ti.size → ∃ v, w.cell? ((a.add (i * ti.size)).add j) = some v ∧ c'[j]? = some v := by
      intro i c' hc j hj
      obtain ⟨_, hcl, hcc⟩ := World.cells?_some hc
      have := hcc j hj
      rw [List.getElem?_eq_getElem (by omega)] at this
      exact ⟨_, this, List.getElem?_eq_getElem (by omega)⟩
    obtain ⟨v00, hv00, _⟩ := hsome 0 c0 hc0 0 h0
    have hspot : a.spot = none := by
      simp only [Nat.zero_mul] at hv00
      have e : (a.add 0).add 0 = a := by simp [Addr.add]
      rw [e] at hv00
      unfold World.cell? at hv00
      split at hv00
      · split at hv00
        · cases hv00
        · rename_i hs; simpa using hs
      · cases hv00
    obtain ⟨ab, ao, asp⟩ := a
    simp only at hspot
    subst hspot
    have hadd : ∀ i j, ((⟨ab, ao, none⟩ : Addr).add i).add j = ⟨ab, ao + (i + j), none⟩ := by
      intro i j
      unfold Addr.add
      by_cases hi : i = 0 <;> by_cases hj : j = 0 <;> simp [hi, hj, Nat.add_assoc]
    have hblk : ab < w.heap.size := by
      rw [hadd] at hv00
      unfold World.cell? at hv00
      cases hb : w.heap[ab]? with
      | none => simp [hb] at hv00
      | some o => exact (Array.getElem?_eq_some_iff.1 hb).1
    have hmain : ∀ (i : Nat) (el : List T) (j : Nat) (x : T), (l.map f)[i]? = some el → el[j]? = some x → ∃ v, w.cell? ⟨ab, ao + (i * ti.size + j), none⟩ = some v ∧ VT (oldB w) w x v := by
      intro i el j x hi hj
      rw [List.getElem?_map] at hi
      cases hli : l[i]? with
      | none => simp [hli] at hi
      | some a' =>
        simp [hli] at hi
        subst hi
        obtain ⟨cs', hc, hrd⟩ := hl2 i a' hli
        have hjl : j < ti.size := by have := (List.getElem?_eq_some_iff.1 hj).1; rw [hf] at this; exact this
        obtain ⟨v, hv1, hv2⟩ := hsome i cs' hc j hjl
        rw [hadd] at hv1
        exact ⟨v, hv1, hrd.2 j x v hj hv2⟩
    rw [← hlen] at hlc ⊢
    refine .sl _ _ ab ao cap (fun i j => (w.cell? ⟨ab, ao + (i * ti.size + j), none⟩).getD (.bool false)) (fun _ => hblk) hlc hcm (fun i el hi => ?_) (fun i el j x hi hj => ?_) fun i el j x hi hj => ?_
    · rw [List.getElem?_map] at hi
      cases hli : l[i]? with
      | none => simp [hli] at hi
      | some a' => simp [hli] at hi; rw [← hi]; exact hf a'
    · obtain ⟨v, h3, _⟩ := hmain i el j x hi hj
      rw [h3]; rfl
    · obtain ⟨v, h3, h4⟩ := hmain i el j x hi hj
      rw [h3]; exact h4

omit hC in
/-- The cells of a struct, put together out of its parts. -/
theorem Rd.part {cs : List Value} {off n : Nat} {us : List T} (h : Rd w ((cs.drop off).take n) us) : ∀ (i : Nat) (x : T) (v : Value), us[i]? = some x → cs[off + i]? = some v → VT (oldB w) w x v := fun i x v hx hv => by
  refine h.2 i x v hx ?_
  have hi : i < ((cs.drop off).take n).length := by rw [h.1]; exact (List.getElem?_eq_some_iff.1 hx).1
  have hin : i < n := by simp at hi; omega
  rw [List.getElem?_take_of_lt hin, List.getElem?_drop]; exact hv
omit hC in
theorem Rd.len {cs : List Value} {off n : Nat} {us : List T} (h : Rd w ((cs.drop off).take n) us) : us.length = min n (cs.length - off) := by
  have := h.1; simp at this; omega
end

/-! ### The program's data -/
section
variable {H : Type} {enc : TypeId × Value → H} {w : World} {spare : Nat → Bool} {held : Bool}

theorem rd_lit {fuel : Nat} {cs : List Value} {x} (h : DataW.trod enc Try.prog w 0 spare held fuel 85 cs = some x) : ∃ l : Lit, Rd w cs (tLit l) := by
  obtain ⟨hl, hf⟩ := rd_struct cx_ok (t := 85) rfl h
  obtain ⟨n0, y0, h0⟩ := hf 0 3 _ (by decide) rfl
  obtain ⟨n1, y1, h1⟩ := hf 1 4 _ (by decide) rfl
  obtain ⟨a, ha⟩ := rd_int cx_ok (t := 3) rfl h0
  obtain ⟨b, hb⟩ := rd_bool cx_ok (t := 4) rfl h1
  refine ⟨⟨a, b⟩, hl, fun i x v hx hv => ?_⟩
  match i with
  | 0 => exact ha.part 0 x v hx hv
  | 1 => exact hb.part 0 x v hx hv
  | i + 2 => simp [tLit] at hx
theorem rd_lits {fuel : Nat} {cs : List Value} {x} (h : DataW.trod enc Try.prog w 0 spare held fuel 41 cs = some x) : ∃ (nl : Bool) (l : List Lit), Rd w cs [.sl nl 2 (l.map tLit)] :=
  rd_slice cx_ok (t := 41) (e := 85) rfl rfl (by decide) tLit (fun _ => rfl) (fun _ _ _ h => rd_lit h) h
theorem rd_ints {fuel : Nat} {cs : List Value} {x} (h : DataW.trod enc Try.prog w 0 spare held fuel 40 cs = some x) : ∃ (nl : Bool) (l : List Int), Rd w cs [.sl nl 1 (l.map tI)] :=
  rd_slice cx_ok (t := 40) (e := 3) rfl rfl (by decide) tI (fun _ => rfl) (fun _ _ _ h => rd_int cx_ok (t := 3) rfl h) h
theorem rd_bools {fuel : Nat} {cs : List Value} {x} (h : DataW.trod enc Try.prog w 0 spare held fuel 25 cs = some x) : ∃ (nl : Bool) (l : List Bool), Rd w cs [.sl nl 1 (l.map tB)] :=
  rd_slice cx_ok (t := 25) (e := 4) rfl rfl (by decide) tB (fun _ => rfl) (fun _ _ _ h => rd_bool cx_ok (t := 4) rfl h) h
theorem rd_rows {fuel : Nat} {cs : List Value} {x} (h : DataW.trod enc Try.prog w 0 spare held fuel 22 cs = some x) : ∃ (nl : Bool) (l : List (Bool × List Int)), Rd w cs [.sl nl 1 (tLs l)] :=
  rd_slice cx_ok (t := 22) (e := 40) rfl rfl (by decide) (fun p : Bool × List Int => [tIs p.1 p.2]) (fun _ => rfl) (fun _ _ _ h => by obtain ⟨nl, l, h⟩ := rd_ints h; exact ⟨(nl, l), h⟩) h
theorem rd_strs {fuel : Nat} {cs : List Value} {x} (h : DataW.trod enc Try.prog w 0 spare held fuel 39 cs = some x) : ∃ (nl : Bool) (l : List ByteArray), Rd w cs [.sl nl 1 (l.map tS)] :=
  rd_slice cx_ok (t := 39) (e := 9) rfl rfl (by decide) tS (fun _ => rfl) (fun _ _ _ h => rd_str cx_ok (t := 9) rfl h) h
theorem rd_eff {fuel : Nat} {cs : List Value} {x} (h : DataW.trod enc Try.prog w 0 spare held fuel 87 cs = some x) : ∃ e : Eff, Rd w cs (tEff e) := by
  obtain ⟨hl, hf⟩ := rd_struct cx_ok (t := 87) rfl h
  obtain ⟨n0, y0, h0⟩ := hf 0 41 _ (by decide) rfl
  obtain ⟨n1, y1, h1⟩ := hf 1 85 _ (by decide) rfl
  obtain ⟨nl, a, ha⟩ := rd_lits h0
  obtain ⟨b, hb⟩ := rd_lit h1
  refine ⟨⟨nl, a, b⟩, hl, fun i x v hx hv => ?_⟩
  match i with
  | 0 => exact ha.part 0 x v hx hv
  | 1 => exact hb.part 0 x v hx hv
  | 2 => exact hb.part 1 x v hx hv
  | i + 3 => simp [tEff] at hx
theorem rd_effs {fuel : Nat} {cs : List Value} {x} (h : DataW.trod enc Try.prog w 0 spare held fuel 81 cs = some x) : ∃ (nl : Bool) (l : List Eff), Rd w cs [.sl nl 3 (l.map tEff)] :=
  rd_slice cx_ok (t := 81) (e := 87) rfl rfl (by decide) tEff (fun _ => rfl) (fun _ _ _ h => rd_eff h) h
theorem rd_act {fuel : Nat} {cs : List Value} {x} (h : DataW.trod enc Try.prog w 0 spare held fuel 83 cs = some x) : ∃ e : Actn, Rd w cs (tAct e) := by
  obtain ⟨hl, hf⟩ := rd_struct cx_ok (t := 83) rfl h
  obtain ⟨n0, y0, h0⟩ := hf 0 9 _ (by decide) rfl
  obtain ⟨n1, y1, h1⟩ := hf 1 3 _ (by decide) rfl
  obtain ⟨n2, y2, h2⟩ := hf 2 41 _ (by decide) rfl
  obtain ⟨n3, y3, h3⟩ := hf 3 81 _ (by decide) rfl
  obtain ⟨a, ha⟩ := rd_str cx_ok (t := 9) rfl h0
  obtain ⟨b, hb⟩ := rd_int cx_ok (t := 3) rfl h1
  obtain ⟨nc, c, hc⟩ := rd_lits h2
  obtain ⟨nd, d, hd⟩ := rd_effs h3
  refine ⟨⟨a, b, nc, c, nd, d⟩, hl, fun i x v hx hv => ?_⟩
  match i with
  | 0 => exact ha.part 0 x v hx hv
  | 1 => exact hb.part 0 x v hx hv
  | 2 => exact hc.part 0 x v hx hv
  | 3 => exact hd.part 0 x v hx hv
  | i + 4 => simp [tAct] at hx
theorem rd_acts {fuel : Nat} {cs : List Value} {x} (h : DataW.trod enc Try.prog w 0 spare held fuel 42 cs = some x) : ∃ (nl : Bool) (l : List Actn), Rd w cs [.sl nl 4 (l.map tAct)] :=
  rd_slice cx_ok (t := 42) (e := 83) rfl rfl (by decide) tAct (fun _ => rfl) (fun _ _ _ h => rd_act h) h
theorem rd_task {fuel : Nat} {cs : List Value} {x} (h : DataW.trod enc Try.prog w 0 spare held fuel 44 cs = some x) : ∃ t : Task, Rd w cs (tTask t) := by
  obtain ⟨hl, hf⟩ := rd_struct cx_ok (t := 44) rfl h
  obtain ⟨n0, y0, h0⟩ := hf 0 39 _ (by decide) rfl
  obtain ⟨n1, y1, h1⟩ := hf 1 40 _ (by decide) rfl
  obtain ⟨n2, y2, h2⟩ := hf 2 41 _ (by decide) rfl
  obtain ⟨n3, y3, h3⟩ := hf 3 42 _ (by decide) rfl
  obtain ⟨na, a, ha⟩ := rd_strs h0
  obtain ⟨nb, b, hb⟩ := rd_ints h1
  obtain ⟨nc, c, hc⟩ := rd_lits h2
  obtain ⟨nd, d, hd⟩ := rd_acts h3
  refine ⟨⟨na, a, nb, b, nc, c, nd, d⟩, hl, fun i x v hx hv => ?_⟩
  match i with
  | 0 => exact ha.part 0 x v hx hv
  | 1 => exact hb.part 0 x v hx hv
  | 2 => exact hc.part 0 x v hx hv
  | 3 => exact hd.part 0 x v hx hv
  | i + 4 => simp [tTask] at hx

theorem laidOut : laidOutB Try.prog = true := by kernel_rfl
theorem own : ownKnob Try.prog.godebug = none := by kernel_rfl

def noKeys : K → Nat := fun _ => 0
theorem start_wr (w : World) : WR (entP noKeys (oldB w) w) noKeys (oldB w) ⟨[], []⟩ w := by
  have hno : ∀ k o, St.get ⟨[], []⟩ k = some o → False := by
    intro k
    induction k with
    | cur s => intro o h; simp [St.get, look] at h
    | fr i s => intro o h; simp [St.get] at h
    | sub k i ih => intro o h; obtain ⟨_, _, _, _, _, hg, _⟩ := St.get_sub h; exact ih _ hg
  exact ⟨rfl, rfl, rfl, Nat.le_refl _, fun _ _ _ => rfl, fun _ h => h, fun _ h => h, fun _ h => .inl h, fun k o hk => (hno k o hk).elim, fun k o hk => (hno k o hk).elim, fun k _ o _ hk => (hno k o hk).elim, fun k o hk => (hno k o hk).elim, fun k o hk => (hno k o hk).elim, fun _ _ _ => rfl⟩

theorem vl_task {t : Task} {v : Value} (h : Rd w v.cells.toList (tTask t)) (hv : ∃ cs, v = .agg cs) : VL noKeys (oldB w) w (.task t) v := by
  obtain ⟨cs, rfl⟩ := hv
  have h' : Rd w cs.toList (tTask t) := h
  obtain ⟨h1, h2⟩ := h'
  rw [show cs = cs.toList.toArray by simp]
  generalize cs.toList = l at h1 h2
  match l, h1 with
  | [a, b, c, d], _ =>
    have g0 := h2 0 _ a rfl rfl
    have g1 := h2 1 _ b rfl rfl
    have g2 := h2 2 _ c rfl rfl
    have g3 := h2 3 _ d rfl rfl
    refine .agg _ _ rfl (fun i x v hx hv => ?_) fun v hv => ?_
    · match i with
      | 0 => simp at hx hv; subst hx; subst hv; exact .t _ _ g0
      | 1 => simp at hx hv; subst hx; subst hv; exact .t _ _ g1
      | 2 => simp at hx hv; subst hx; subst hv; exact .t _ _ g2
      | 3 => simp at hx hv; subst hx; subst hv; exact .t _ _ g3
      | i + 4 => simp at hx
    · simp at hv
      rcases hv with rfl | rfl | rfl | rfl
      · exact g0.one
      · exact g1.one
      · exact g2.one
      · exact g3.one
theorem vl_ints {nl : Bool} {s : List Int} {v : Value} (h : Rd w v.cells.toList [.sl nl 1 (s.map tI)]) (hv : ∃ a b c, v = .slice a b c) : VL noKeys (oldB w) w (.ints nl s) v := by
  obtain ⟨a, b, c, rfl⟩ := hv
  exact .t _ _ (h.2 0 _ _ rfl rfl)

theorem wr_below {β' RO' out ro w'} (h : WR (entP noKeys (oldB w) w) β' RO' ⟨out, ro⟩ w') : Go.RowKit.Below w.heap.size w w' := ⟨h.os, h.tape, h.output, h.size, fun k hk => h.keep k hk fun hf => hf⟩
theorem vl_true {β' RO' w' v} (h : VL β' RO' w' (.bool true) v) : v = .bool true := h.v_inv
end

theorem und44 : ∃ fs, Try.prog.underlying 44 = some (.struct fs) := by
  obtain ⟨d, h1, h2⟩ := und_ty cx_ok (t := 44) rfl
  cases d <;> simp [descOf] at h2
  exact ⟨_, h1⟩
theorem und40 : Try.prog.underlying 40 = some (.slice 3) := by kernel_rfl
theorem und4 : Try.prog.underlying 4 = some .bool := by kernel_rfl

section
variable {w : World}
theorem vl_sl {nl : Bool} {sz : Nat} {es : List (List T)} {v : Value} (h : Rd w v.cells.toList [.sl nl sz es]) (hv : ∃ a b c, v = .slice a b c) : VL noKeys (oldB w) w (.t (.sl nl sz es)) v := by
  obtain ⟨a, b, c, rfl⟩ := hv
  exact .t _ _ (h.2 0 _ _ rfl rfl)
end
theorem vl_num {β : K → Nat} {RO : Nat → Prop} {w : World} {k : IntKind} {n : Int} {v : Value} (h : v = .int k n) : VL β RO w (.t (.v (.int k n))) v := by
  rw [h]; exact .t _ _ (.v _ rfl)
theorem okWide_num {P : Program} {w : World} {r : Reach} {base : Nat} {t : TypeId} {v : Value} {k : IntKind} (ht : P.underlying t = some (.int k)) (h : Value.okWide P w r base t v) : ∃ n, v = .int k n ∧ k.has n := by
  simp only [Value.okWide, ht, Cell.okWide] at h
  cases v <;> simp_all [Cell.ok]
theorem u8_in {n : Int} (h : IntKind.has .u8 n) : 0 ≤ n ∧ n ≤ 255 := h
theorem und41 : Try.prog.underlying 41 = some (.slice 85) := by kernel_rfl
theorem und25 : Try.prog.underlying 25 = some (.slice 4) := by kernel_rfl
theorem und22 : Try.prog.underlying 22 = some (.slice 40) := by kernel_rfl
theorem und3 : Try.prog.underlying 3 = some (.int .i64) := by kernel_rfl
theorem und5 : Try.prog.underlying 5 = some (.int .u8) := by kernel_rfl

section
variable {H : Type} {enc : TypeId × Value → H} {P : Program} {w : World} {base : Nat} {spare : Nat → Bool} {held : Bool}
theorem trodAll_five {t0 t1 t2 t3 t4 : TypeId} {args : Array Value} {ds : List (DataW H)} {ps : List MemPlace} (h : DataW.TrodAll enc P w base spare held [t0, t1, t2, t3, t4] args.toList ds ps) :
    ∃ v0 v1 v2 v3 v4 d0 d1 d2 d3 d4 p0 p1 p2 p3 p4, args = #[v0, v1, v2, v3, v4] ∧ ds = [d0, d1, d2, d3, d4] ∧ ps = p0 ++ p1 ++ p2 ++ p3 ++ p4 ∧ DataW.Trod enc P w base spare held t0 v0 d0 p0 ∧ DataW.Trod enc P w base spare held t1 v1 d1 p1 ∧ DataW.Trod enc P w base spare held t2 v2 d2 p2 ∧ DataW.Trod enc P w base spare held t3 v3 d3 p3 ∧ DataW.Trod enc P w base spare held t4 v4 d4 p4 := by
  obtain ⟨v0, w0, d0, e0, p0, q0, hargs, rfl, rfl, h0, k0⟩ := trodAll_cons h
  obtain ⟨v1, w1, d1, e1, p1, q1, rfl, rfl, rfl, h1, k1⟩ := trodAll_cons k0
  obtain ⟨v2, w2, d2, e2, p2, q2, rfl, rfl, rfl, h2, k2⟩ := trodAll_cons k1
  obtain ⟨v3, w3, d3, e3, p3, q3, rfl, rfl, rfl, h3, k3⟩ := trodAll_cons k2
  obtain ⟨v4, w4, d4, e4, p4, q4, rfl, rfl, rfl, h4, k4⟩ := trodAll_cons k3
  obtain ⟨rfl, rfl, rfl⟩ := trodAll_nil k4
  exact ⟨v0, v1, v2, v3, v4, d0, d1, d2, d3, d4, p0, p1, p2, p3, p4, by cases args; simp_all, rfl, by simp, h0, h1, h2, h3, h4⟩
theorem trodAll_mk5 {t0 t1 t2 t3 t4 : TypeId} {v0 v1 v2 v3 v4 : Value} {d0 d1 d2 d3 d4 : DataW H} {p0 p1 p2 p3 p4 : List MemPlace} (h0 : DataW.Trod enc P w base spare held t0 v0 d0 p0) (h1 : DataW.Trod enc P w base spare held t1 v1 d1 p1) (h2 : DataW.Trod enc P w base spare held t2 v2 d2 p2) (h3 : DataW.Trod enc P w base spare held t3 v3 d3 p3) (h4 : DataW.Trod enc P w base spare held t4 v4 d4 p4) :
    DataW.TrodAll enc P w base spare held [t0, t1, t2, t3, t4] [v0, v1, v2, v3, v4] [d0, d1, d2, d3, d4] (p0 ++ (p1 ++ (p2 ++ (p3 ++ p4)))) := ⟨p0, p1 ++ (p2 ++ (p3 ++ p4)), h0, trodAll_mk4 h1 h2 h3 h4, rfl⟩
end

/-! ### How long a slice is that the form reads -/
theorem vt_len {RO : Nat → Prop} {w : World} {nl : Bool} {sz : Nat} {es : List (List T)} {a : Option Addr} {len cap : Nat} (h : VT RO w (.sl nl sz es) (.slice a len cap)) : es.length ≤ len := by
  cases h <;> simp
section
variable {H : Type} {enc : TypeId × Value → H} {w : World} {spare : Nat → Bool} {held : Bool}
theorem sized_len {nl : Bool} {sz t e : Nat} {es : List (List T)} {v : Value} {fuel : Nat} {d : DataW H} {p : List MemPlace} {ts : List TypeId} {ds : List (DataW H)} {j : Nat} {n : Nat}
    (ht : Try.prog.underlying t = some (.slice e)) (hr : Rd w v.cells.toList [.sl nl sz es]) (hq : DataW.trod enc Try.prog w 0 spare held fuel t v.cells.toList = some (d, p))
    (hs : (DataW.weightsEach Try.prog ts ds).all (· ≤ reachBytes) = true) (h1 : ts[j]? = some t) (h2 : ds[j]? = some d) (hb : reachBytes ≤ n * Try.prog.bytesOf e) (h0 : 0 < Try.prog.bytesOf e) : es.length ≤ n := by
  rcases Go.Deep.open_slice ht hq with ⟨hc, _⟩ | ⟨a, len, cap, m, k, D, Pl, hc, _, _, _, _, hx, _⟩
  · rw [hc] at hr
    have := vt_len (hr.2 0 _ _ rfl rfl)
    omega
  · rw [hc] at hr
    have h3 := vt_len (hr.2 0 _ _ rfl rfl)
    obtain ⟨rfl, _⟩ := Prod.mk.inj hx
    have h4 := sized_slice hs h1 h2 ht
    rw [List.length_map, List.length_range] at h4
    have h5 := Nat.le_trans h4 hb
    have h6 := Nat.le_of_mul_le_mul_right h5 h0
    omega
end

end Go.Fw

/- Texts that lead to the law, part 16. -/
import Derived.Test.YtmcbncmklopoaaaRows
import Derived.Test.YtmcbncmklopoaaaZH
import Derived.Carry
import Derived.ProofKit
import Derived.Deep.Slices
import Derived.SizedLaws
import Derived.Test.YtmcbncmklopoaaaZI
import Derived.Test.YtmcbncmklopoaaaZJ

/- The row: arguments that can be read are closed data; a contract of a law gives its row. -/
namespace Go.Fw
open Go Go.Proofs Go.ChangeShapes Go.WideShapes Go.ChangeAt Go.RowKit

abbrev oldB (w : World) : Nat → Prop := fun b => b < w.heap.size
def Rd (w : World) (cs : List Value) (ts : List T) : Prop := cs.length = ts.length ∧ ∀ (i : Nat) (x : T) (v : Value), ts[i]? = some x → cs[i]? = some v → VT (oldB w) w x v

section
variable {C : Ctx} {P : Program} (hC : C.OK P) {H : Type} {enc : TypeId × Value → H} {w : World} {spare : Nat → Bool} {held : Bool}
include hC

theorem cellsOf_ty {t : Nat} {i : TI} (h : C.ty t = some i) : P.cellsOf t = i.size := by
  obtain ⟨j, z, h1, h2, _⟩ := (hC.ty h).info
  simp [Program.cellsOf, h1, h2]

theorem und_ty {t : Nat} {i : TI} (h : C.ty t = some i) : ∃ d, P.underlying t = some d ∧ descOf d = i.d := (hC.ty h).underlying

omit hC in
theorem Rd.one {v : Value} {x : T} (h : VT (oldB w) w x v) : Rd w [v] [x] := ⟨rfl, fun i y u hy hu => by
  cases i with
  | zero => simp at hy hu; subst hy; subst hu; exact h
  | succ i => simp at hy⟩

theorem rd_int {t : Nat} {k : IntKind} {s b z} (ht : C.ty t = some ⟨.int k, s, b, z⟩) {fuel : Nat} {cs : List Value} {x} (h : DataW.trod enc P w 0 spare held fuel t cs = some x) : ∃ n : Int, Rd w cs [.v (.int k n)] := by
  obtain ⟨d, h1, h2⟩ := und_ty hC ht
  cases d <;> simp [descOf] at h2
  subst h2
  obtain ⟨n, rfl, _⟩ := DataW.trod_int h1 h
  exact ⟨n, .one (.v _ rfl)⟩
theorem rd_bool {t : Nat} {s b z} (ht : C.ty t = some ⟨.bool, s, b, z⟩) {fuel : Nat} {cs : List Value} {x} (h : DataW.trod enc P w 0 spare held fuel t cs = some x) : ∃ n : Bool, Rd w cs [.v (.bool n)] := by
  obtain ⟨d, h1, h2⟩ := und_ty hC ht
  cases d <;> simp [descOf] at h2
  obtain ⟨n, rfl, _⟩ := DataW.trod_bool h1 h
  exact ⟨n, .one (.v _ rfl)⟩
theorem rd_str {t : Nat} {s b z} (ht : C.ty t = some ⟨.str, s, b, z⟩) {fuel : Nat} {cs : List Value} {x} (h : DataW.trod enc P w 0 spare held fuel t cs = some x) : ∃ n : ByteArray, Rd w cs [.v (.string n)] := by
  obtain ⟨d, h1, h2⟩ := und_ty hC ht
  cases d <;> simp [descOf] at h2
  obtain ⟨n, rfl, _⟩ := DataW.trod_string h1 h
  exact ⟨n, .one (.v _ rfl)⟩
theorem rd_struct {t : Nat} {fs s b z} (ht : C.ty t = some ⟨.struct fs, s, b, z⟩) {fuel : Nat} {cs : List Value} {x} (h : DataW.trod enc P w 0 spare held fuel t cs = some x) :
    cs.length = s ∧ ∀ off ft ti, (off, ft) ∈ fs → C.ty ft = some ti → ∃ n y, DataW.trod enc P w 0 spare held n ft ((cs.drop off).take ti.size) = some y := by
  obtain ⟨d, h1, h2⟩ := und_ty hC ht
  cases d <;> simp [descOf] at h2
  rename_i fl
  obtain ⟨xs, n, _, rfl, hl, hlen, hf⟩ := DataW.trod_struct h1 h
  refine ⟨by rw [hl, cellsOf_ty hC ht], fun off ft ti hm hti => ?_⟩
  have : (off, ft) ∈ fl.toList.map fun f => (f.offset, f.type) := by rw [← h2] at hm; simpa using hm
  obtain ⟨f, hfm, hfe⟩ := List.mem_map.1 this
  simp only [Prod.mk.injEq] at hfe
  obtain ⟨i, hi, hie⟩ := List.getElem_of_mem hfm
  have hfi : fl[i]? = some f := by rw [← hie]; simp at hi ⊢
  have hx := hf i f hfi
  have hil : i < xs.length := by rw [hlen]; simpa using hi
  rw [List.getElem?_eq_getElem hil, hfe.1, hfe.2, cellsOf_ty hC hti] at hx
  exact ⟨n, _, hx⟩

omit hC in
theorem build_list {α : Type} {p : Nat → α → Prop} : ∀ n : Nat, (∀ i, i < n → ∃ a, p i a) → ∃ l : List α, l.length = n ∧ ∀ i a, l[i]? = some a → p i a
  | 0, _ => ⟨[], rfl, fun i a h => by simp at h⟩
  | n + 1, h => by
    obtain ⟨l, h1, h2⟩ := build_list n fun i hi => h i (by omega)
    obtain ⟨a, ha⟩ := h n (by omega)
    refine ⟨l ++ [a], by simp [h1], fun i b hb => ?_⟩
    by_cases hi : i < n
    · rw [List.getElem?_append_left (by omega)] at hb; exact h2 i b hb
    · have : i = n := by have := (List.getElem?_eq_some_iff.1 hb).1; simp at this; omega
      subst this
      rw [List.getElem?_append_right (by omega), h1, Nat.sub_self] at hb
      simp at hb; subst hb; exact ha

theorem rd_slice {t e : Nat} {s b z} {ti : TI} (ht : C.ty t = some ⟨.slice e, s, b, z⟩) (hti : C.ty e = some ti) (h0 : 0 < ti.size) {α : Type} (f : α → List T) (hf : ∀ a, (f a).length = ti.size)
    (he : ∀ fuel cs x, DataW.trod enc P w 0 spare held fuel e cs = some x → ∃ a, Rd w cs (f a)) {fuel : Nat} {cs : List Value} {x} (h : DataW.trod enc P w 0 spare held fuel t cs = some x) :
    ∃ (nl : Bool) (l : List α), Rd w cs [.sl nl ti.size (l.map f)] := by
  obtain ⟨d, h1, h2⟩ := und_ty hC ht
  cases d <;> simp [descOf] at h2
  subst h2
  rcases Go.Deep.open_slice h1 h with ⟨rfl, _⟩ | ⟨a, len, cap, m, n, D, Pl, rfl, _, hlc, hcm, hm, _, hel⟩
  · exact ⟨true, [], .one (.nil _)⟩
  rw [cellsOf_ty hC hti] at hel
  have hlm : len ≤ m := by rw [hm]; split <;> omega
  obtain ⟨l, hl1, hl2⟩ := build_list (p := fun i a' => ∃ cs', w.cells? 0 (a.add (i * ti.size)) ti.size = some cs' ∧ Rd w cs' (f a')) len fun i hi => by
    obtain ⟨cs', h3, h4⟩ := hel i (by omega)
    obtain ⟨a', ha⟩ := he _ _ _ h4
    exact ⟨a', cs', h3, ha⟩
  refine ⟨false, l, .one ?_⟩
  cases hl : l with
  | nil =>
    have : len = 0 := by rw [← hl1, hl]; rfl
    subst this
    exact .emp _ _ _ hcm
  | cons a0 r =>
    rw [← hl]
    have hlen : (l.map f).length = len := by simp [hl1]
    have h00 : l[0]? = some a0 := by rw [hl]; rfl
    obtain ⟨c0, hc0, _⟩ := hl2 0 a0 h00
    obtain ⟨_, _, hcell0⟩ := World.cells?_some hc0
    have hsome : ∀ i c', w.cells? 0 (a.add (i * ti.size)) ti.size = some c' → ∀ j, j < ti.size → ∃ v, w.cell? ((a.add (i * ti.size)).add j) = some v ∧ c'[j]? = some v := by
      intro i c' hc j hj
      obtain ⟨_, hcl, hcc⟩ := World.cells?_some hc
      have := hcc j hj
      rw [List.getElem?_eq_getElem (by omega)] at this
      exact ⟨_, this, List.getElem?_eq_getElem (by omega)⟩
    obtain ⟨v00, hv00, _⟩ := hsome 0 c0 hc0 0 h0
    have hspot : a.spot = none := by
      simp only [Nat.zero_mul] at hv00
      have e : (a.add 0).add 0 = a := by simp [Addr.add]
      rw [e] at hv00
      unfold World.cell? at hv00
      split at hv00
      · split at hv00
        · cases hv00
        · rename_i hs; simpa using hs
      · cases hv00
    obtain ⟨ab, ao, asp⟩ := a
    simp only at hspot
    subst hspot
    have hadd : ∀ i j, ((⟨ab, ao, none⟩ : Addr).add i).add j = ⟨ab, ao + (i + j), none⟩ := by
      intro i j
      unfold Addr.add
      by_cases hi : i = 0 <;> by_cases hj : j = 0 <;> simp [hi, hj, Nat.add_assoc]
    have hblk : ab < w.heap.size := by
      rw [hadd] at hv00
      unfold World.cell? at hv00
      cases hb : w.heap[ab]? with
      | none => simp [hb] at hv00
      | some o => exact (Array.getElem?_eq_some_iff.1 hb).1
    have hmain : ∀ (i : Nat) (el : List T) (j : Nat) (x : T), (l.map f)[i]? = some el → el[j]? = some x → ∃ v, w.cell? ⟨ab, ao + (i * ti.size + j), none⟩ = some v ∧ VT (oldB w) w x v := by
      intro i el j x hi hj
      rw [List.getElem?_map] at hi
      cases hli : l[i]? with
      | none => simp [hli] at hi
      | some a' =>
        simp [hli] at hi
        subst hi
        obtain ⟨cs', hc, hrd⟩ := hl2 i a' hli
        have hjl : j < ti.size := by have := (List.getElem?_eq_some_iff.1 hj).1; rw [hf] at this; exact this
        obtain ⟨v, hv1, hv2⟩ := hsome i cs' hc j hjl
        rw [hadd] at hv1
        exact ⟨v, hv1, hrd.2 j x v hj hv2⟩
    rw [← hlen] at hlc ⊢
    refine .sl _ _ ab ao cap (fun i j => (w.cell? ⟨ab, ao + (i * ti.size + j), none⟩).getD (.bool false)) (fun _ => hblk) hlc hcm (fun i el hi => ?_) (fun i el j x hi hj => ?_) fun i el j x hi hj => ?_
    · rw [List.getElem?_map] at hi
      cases hli : l[i]? with
      | none => simp [hli] at hi
      | some a' => simp [hli] at hi; rw [← hi]; exact hf a'
    · obtain ⟨v, h3, _⟩ := hmain i el j x hi hj
      rw [h3]; rfl
    · obtain ⟨v, h3, h4⟩ := hmain i el j x hi hj
      rw [h3]; exact h4

omit hC in
/-- The cells of a struct, put together out of its parts. -/
theorem Rd.part {cs : List Value} {off n : Nat} {us : List T} (h : Rd w ((cs.drop off).take n) us) : ∀ (i : Nat) (x : T) (v : Value), us[i]? = some x → cs[off + i]? = some v → VT (oldB w) w x v := fun i x v hx hv => by
  refine h.2 i x v hx ?_
  have hi : i < ((cs.drop off).take n).length := by rw [h.1]; exact (List.getElem?_eq_some_iff.1 hx).1
  have hin : i < n := by simp at hi; omega
  rw [List.getElem?_take_of_lt hin, List.getElem?_drop]; exact hv
omit hC in
theorem Rd.len {cs : List Value} {off n : Nat} {us : List T} (h : Rd w ((cs.drop off).take n) us) : us.length = min n (cs.length - off) := by
  have := h.1; simp at this; omega
end

/-! ### The program's data -/
section
variable {H : Type} {enc : TypeId × Value → H} {w : World} {spare : Nat → Bool} {held : Bool}

theorem rd_lit {fuel : Nat} {cs : List Value} {x} (h : DataW.trod enc Try.prog w 0 spare held fuel 81 cs = some x) : ∃ l : Lit, Rd w cs (tLit l) := by
  obtain ⟨hl, hf⟩ := rd_struct cx_ok (t := 81) rfl h
  obtain ⟨n0, y0, h0⟩ := hf 0 3 _ (by decide) rfl
  obtain ⟨n1, y1, h1⟩ := hf 1 4 _ (by decide) rfl
  obtain ⟨a, ha⟩ := rd_int cx_ok (t := 3) rfl h0
  obtain ⟨b, hb⟩ := rd_bool cx_ok (t := 4) rfl h1
  refine ⟨⟨a, b⟩, hl, fun i x v hx hv => ?_⟩
  match i with
  | 0 => exact ha.part 0 x v hx hv
  | 1 => exact hb.part 0 x v hx hv
  | i + 2 => simp [tLit] at hx
theorem rd_lits {fuel : Nat} {cs : List Value} {x} (h : DataW.trod enc Try.prog w 0 spare held fuel 24 cs = some x) : ∃ (nl : Bool) (l : List Lit), Rd w cs [.sl nl 2 (l.map tLit)] :=
  rd_slice cx_ok (t := 24) (e := 81) rfl rfl (by decide) tLit (fun _ => rfl) (fun _ _ _ h => rd_lit h) h
theorem rd_ints {fuel : Nat} {cs : List Value} {x} (h : DataW.trod enc Try.prog w 0 spare held fuel 23 cs = some x) : ∃ (nl : Bool) (l : List Int), Rd w cs [.sl nl 1 (l.map tI)] :=
  rd_slice cx_ok (t := 23) (e := 3) rfl rfl (by decide) tI (fun _ => rfl) (fun _ _ _ h => rd_int cx_ok (t := 3) rfl h) h
theorem rd_strs {fuel : Nat} {cs : List Value} {x} (h : DataW.trod enc Try.prog w 0 spare held fuel 22 cs = some x) : ∃ (nl : Bool) (l : List ByteArray), Rd w cs [.sl nl 1 (l.map tS)] :=
  rd_slice cx_ok (t := 22) (e := 9) rfl rfl (by decide) tS (fun _ => rfl) (fun _ _ _ h => rd_str cx_ok (t := 9) rfl h) h
theorem rd_eff {fuel : Nat} {cs : List Value} {x} (h : DataW.trod enc Try.prog w 0 spare held fuel 83 cs = some x) : ∃ e : Eff, Rd w cs (tEff e) := by
  obtain ⟨hl, hf⟩ := rd_struct cx_ok (t := 83) rfl h
  obtain ⟨n0, y0, h0⟩ := hf 0 24 _ (by decide) rfl
  obtain ⟨n1, y1, h1⟩ := hf 1 81 _ (by decide) rfl
  obtain ⟨nl, a, ha⟩ := rd_lits h0
  obtain ⟨b, hb⟩ := rd_lit h1
  refine ⟨⟨nl, a, b⟩, hl, fun i x v hx hv => ?_⟩
  match i with
  | 0 => exact ha.part 0 x v hx hv
  | 1 => exact hb.part 0 x v hx hv
  | 2 => exact hb.part 1 x v hx hv
  | i + 3 => simp [tEff] at hx
theorem rd_effs {fuel : Nat} {cs : List Value} {x} (h : DataW.trod enc Try.prog w 0 spare held fuel 77 cs = some x) : ∃ (nl : Bool) (l : List Eff), Rd w cs [.sl nl 3 (l.map tEff)] :=
  rd_slice cx_ok (t := 77) (e := 83) rfl rfl (by decide) tEff (fun _ => rfl) (fun _ _ _ h => rd_eff h) h
theorem rd_act {fuel : Nat} {cs : List Value} {x} (h : DataW.trod enc Try.prog w 0 spare held fuel 79 cs = some x) : ∃ e : Actn, Rd w cs (tAct e) := by
  obtain ⟨hl, hf⟩ := rd_struct cx_ok (t := 79) rfl h
  obtain ⟨n0, y0, h0⟩ := hf 0 9 _ (by decide) rfl
  obtain ⟨n1, y1, h1⟩ := hf 1 3 _ (by decide) rfl
  obtain ⟨n2, y2, h2⟩ := hf 2 24 _ (by decide) rfl
  obtain ⟨n3, y3, h3⟩ := hf 3 77 _ (by decide) rfl
  obtain ⟨a, ha⟩ := rd_str cx_ok (t := 9) rfl h0
  obtain ⟨b, hb⟩ := rd_int cx_ok (t := 3) rfl h1
  obtain ⟨nc, c, hc⟩ := rd_lits h2
  obtain ⟨nd, d, hd⟩ := rd_effs h3
  refine ⟨⟨a, b, nc, c, nd, d⟩, hl, fun i x v hx hv => ?_⟩
  match i with
  | 0 => exact ha.part 0 x v hx hv
  | 1 => exact hb.part 0 x v hx hv
  | 2 => exact hc.part 0 x v hx hv
  | 3 => exact hd.part 0 x v hx hv
  | i + 4 => simp [tAct] at hx
theorem rd_acts {fuel : Nat} {cs : List Value} {x} (h : DataW.trod enc Try.prog w 0 spare held fuel 25 cs = some x) : ∃ (nl : Bool) (l : List Actn), Rd w cs [.sl nl 4 (l.map tAct)] :=
  rd_slice cx_ok (t := 25) (e := 79) rfl rfl (by decide) tAct (fun _ => rfl) (fun _ _ _ h => rd_act h) h
theorem rd_task {fuel : Nat} {cs : List Value} {x} (h : DataW.trod enc Try.prog w 0 spare held fuel 27 cs = some x) : ∃ t : Task, Rd w cs (tTask t) := by
  obtain ⟨hl, hf⟩ := rd_struct cx_ok (t := 27) rfl h
  obtain ⟨n0, y0, h0⟩ := hf 0 22 _ (by decide) rfl
  obtain ⟨n1, y1, h1⟩ := hf 1 23 _ (by decide) rfl
  obtain ⟨n2, y2, h2⟩ := hf 2 24 _ (by decide) rfl
  obtain ⟨n3, y3, h3⟩ := hf 3 25 _ (by decide) rfl
  obtain ⟨na, a, ha⟩ := rd_strs h0
  obtain ⟨nb, b, hb⟩ := rd_ints h1
  obtain ⟨nc, c, hc⟩ := rd_lits h2
  obtain ⟨nd, d, hd⟩ := rd_acts h3
  refine ⟨⟨na, a, nb, b, nc, c, nd, d⟩, hl, fun i x v hx hv => ?_⟩
  match i with
  | 0 => exact ha.part 0 x v hx hv
  | 1 => exact hb.part 0 x v hx hv
  | 2 => exact hc.part 0 x v hx hv
  | 3 => exact hd.part 0 x v hx hv
  | i + 4 => simp [tTask] at hx

theorem laidOut : laidOutB Try.prog = true := by kernel_rfl
theorem own : ownKnob Try.prog.godebug = none := by kernel_rfl

def noKeys : K → Nat := fun _ => 0
theorem start_wr (w : World) : WR (entP noKeys (oldB w) w) noKeys (oldB w) ⟨[], []⟩ w := by
  have hno : ∀ k o, St.get ⟨[], []⟩ k = some o → False := by
    intro k
    induction k with
    | cur s => intro o h; simp [St.get, look] at h
    | fr i s => intro o h; simp [St.get] at h
    | sub k i ih => intro o h; obtain ⟨_, _, _, _, _, hg, _⟩ := St.get_sub h; exact ih _ hg
  exact ⟨rfl, rfl, rfl, Nat.le_refl _, fun _ _ _ => rfl, fun _ h => h, fun _ h => h, fun _ h => .inl h, fun k o hk => (hno k o hk).elim, fun k o hk => (hno k o hk).elim, fun k _ o _ hk => (hno k o hk).elim, fun k o hk => (hno k o hk).elim, fun k o hk => (hno k o hk).elim, fun _ _ _ => rfl⟩

theorem vl_task {t : Task} {v : Value} (h : Rd w v.cells.toList (tTask t)) (hv : ∃ cs, v = .agg cs) : VL noKeys (oldB w) w (.task t) v := by
  obtain ⟨cs, rfl⟩ := hv
  have h' : Rd w cs.toList (tTask t) := h
  obtain ⟨h1, h2⟩ := h'
  rw [show cs = cs.toList.toArray by simp]
  generalize cs.toList = l at h1 h2
  match l, h1 with
  | [a, b, c, d], _ =>
    have g0 := h2 0 _ a rfl rfl
    have g1 := h2 1 _ b rfl rfl
    have g2 := h2 2 _ c rfl rfl
    have g3 := h2 3 _ d rfl rfl
    refine .agg _ _ rfl (fun i x v hx hv => ?_) fun v hv => ?_
    · match i with
      | 0 => simp at hx hv; subst hx; subst hv; exact .t _ _ g0
      | 1 => simp at hx hv; subst hx; subst hv; exact .t _ _ g1
      | 2 => simp at hx hv; subst hx; subst hv; exact .t _ _ g2
      | 3 => simp at hx hv; subst hx; subst hv; exact .t _ _ g3
      | i + 4 => simp at hx
    · simp at hv
      rcases hv with rfl | rfl | rfl | rfl
      · exact g0.one
      · exact g1.one
      · exact g2.one
      · exact g3.one
theorem vl_ints {nl : Bool} {s : List Int} {v : Value} (h : Rd w v.cells.toList [.sl nl 1 (s.map tI)]) (hv : ∃ a b c, v = .slice a b c) : VL noKeys (oldB w) w (.ints nl s) v := by
  obtain ⟨a, b, c, rfl⟩ := hv
  exact .t _ _ (h.2 0 _ _ rfl rfl)

theorem wr_below {β' RO' out ro w'} (h : WR (entP noKeys (oldB w) w) β' RO' ⟨out, ro⟩ w') : Go.RowKit.Below w.heap.size w w' := ⟨h.os, h.tape, h.output, h.size, fun k hk => h.keep k hk fun hf => hf⟩
theorem vl_true {β' RO' w' v} (h : VL β' RO' w' (.bool true) v) : v = .bool true := h.v_inv
end

theorem und27 : ∃ fs, Try.prog.underlying 27 = some (.struct fs) := by
  obtain ⟨d, h1, h2⟩ := und_ty cx_ok (t := 27) rfl
  cases d <;> simp [descOf] at h2
  exact ⟨_, h1⟩
theorem und23 : Try.prog.underlying 23 = some (.slice 3) := by kernel_rfl
theorem und4 : Try.prog.underlying 4 = some .bool := by kernel_rfl

section
variable {w : World}
theorem vl_sl {nl : Bool} {sz : Nat} {es : List (List T)} {v : Value} (h : Rd w v.cells.toList [.sl nl sz es]) (hv : ∃ a b c, v = .slice a b c) : VL noKeys (oldB w) w (.t (.sl nl sz es)) v := by
  obtain ⟨a, b, c, rfl⟩ := hv
  exact .t _ _ (h.2 0 _ _ rfl rfl)
end
theorem vl_num {β : K → Nat} {RO : Nat → Prop} {w : World} {k : IntKind} {n : Int} {v : Value} (h : v = .int k n) : VL β RO w (.t (.v (.int k n))) v := by
  rw [h]; exact .t _ _ (.v _ rfl)
theorem okWide_num {P : Program} {w : World} {r : Reach} {base : Nat} {t : TypeId} {v : Value} {k : IntKind} (ht : P.underlying t = some (.int k)) (h : Value.okWide P w r base t v) : ∃ n, v = .int k n ∧ k.has n := by
  simp only [Value.okWide, ht, Cell.okWide] at h
  cases v <;> simp_all [Cell.ok]
theorem u8_in {n : Int} (h : IntKind.has .u8 n) : 0 ≤ n ∧ n ≤ 255 := h
theorem und24 : Try.prog.underlying 24 = some (.slice 81) := by kernel_rfl
theorem und107 : Try.prog.underlying 107 = some (.slice 23) := by kernel_rfl
theorem und3 : Try.prog.underlying 3 = some (.int .i64) := by kernel_rfl
theorem und5 : Try.prog.underlying 5 = some (.int .u8) := by kernel_rfl

section
variable {H : Type} {enc : TypeId × Value → H} {P : Program} {w : World} {base : Nat} {spare : Nat → Bool} {held : Bool}
theorem trodAll_five {t0 t1 t2 t3 t4 : TypeId} {args : Array Value} {ds : List (DataW H)} {ps : List MemPlace} (h : DataW.TrodAll enc P w base spare held [t0, t1, t2, t3, t4] args.toList ds ps) :
    ∃ v0 v1 v2 v3 v4 d0 d1 d2 d3 d4 p0 p1 p2 p3 p4, args = #[v0, v1, v2, v3, v4] ∧ ds = [d0, d1, d2, d3, d4] ∧ ps = p0 ++ p1 ++ p2 ++ p3 ++ p4 ∧ DataW.Trod enc P w base spare held t0 v0 d0 p0 ∧ DataW.Trod enc P w base spare held t1 v1 d1 p1 ∧ DataW.Trod enc P w base spare held t2 v2 d2 p2 ∧ DataW.Trod enc P w base spare held t3 v3 d3 p3 ∧ DataW.Trod enc P w base spare held t4 v4 d4 p4 := by
  obtain ⟨v0, w0, d0, e0, p0, q0, hargs, rfl, rfl, h0, k0⟩ := trodAll_cons h
  obtain ⟨v1, w1, d1, e1, p1, q1, rfl, rfl, rfl, h1, k1⟩ := trodAll_cons k0
  obtain ⟨v2, w2, d2, e2, p2, q2, rfl, rfl, rfl, h2, k2⟩ := trodAll_cons k1
  obtain ⟨v3, w3, d3, e3, p3, q3, rfl, rfl, rfl, h3, k3⟩ := trodAll_cons k2
  obtain ⟨v4, w4, d4, e4, p4, q4, rfl, rfl, rfl, h4, k4⟩ := trodAll_cons k3
  obtain ⟨rfl, rfl, rfl⟩ := trodAll_nil k4
  exact ⟨v0, v1, v2, v3, v4, d0, d1, d2, d3, d4, p0, p1, p2, p3, p4, by cases args; simp_all, rfl, by simp, h0, h1, h2, h3, h4⟩
theorem trodAll_mk5 {t0 t1 t2 t3 t4 : TypeId} {v0 v1 v2 v3 v4 : Value} {d0 d1 d2 d3 d4 : DataW H} {p0 p1 p2 p3 p4 : List MemPlace} (h0 : DataW.Trod enc P w base spare held t0 v0 d0 p0) (h1 : DataW.Trod enc P w base spare held t1 v1 d1 p1) (h2 : DataW.Trod enc P w base spare held t2 v2 d2 p2) (h3 : DataW.Trod enc P w base spare held t3 v3 d3 p3) (h4 : DataW.Trod enc P w base spare held t4 v4 d4 p4) :
    DataW.TrodAll enc P w base spare held [t0, t1, t2, t3, t4] [v0, v1, v2, v3, v4] [d0, d1, d2, d3, d4] (p0 ++ (p1 ++ (p2 ++ (p3 ++ p4)))) := ⟨p0, p1 ++ (p2 ++ (p3 ++ p4)), h0, trodAll_mk4 h1 h2 h3 h4, rfl⟩
end

/-! ### How long a slice is that the form reads -/
theorem vt_len {RO : Nat → Prop} {w : World} {nl : Bool} {sz : Nat} {es : List (List T)} {a : Option Addr} {len cap : Nat} (h : VT RO w (.sl nl sz es) (.slice a len cap)) : es.length ≤ len := by
  cases h <;> simp
section
variable {H : Type} {enc : TypeId × Value → H} {w : World} {spare : Nat → Bool} {held : Bool}
theorem sized_len {nl : Bool} {sz t e : Nat} {es : List (List T)} {v : Value} {fuel : Nat} {d : DataW H} {p : List MemPlace} {ts : List TypeId} {ds : List (DataW H)} {j : Nat} {n : Nat}
    (ht : Try.prog.underlying t = some (.slice e)) (hr : Rd w v.cells.toList [.sl nl sz es]) (hq : DataW.trod enc Try.prog w 0 spare held fuel t v.cells.toList = some (d, p))
    (hs : (DataW.weightsEach Try.prog ts ds).all (· ≤ reachBytes) = true) (h1 : ts[j]? = some t) (h2 : ds[j]? = some d) (hb : reachBytes ≤ n * Try.prog.bytesOf e) (h0 : 0 < Try.prog.bytesOf e) : es.length ≤ n := by
  rcases Go.Deep.open_slice ht hq with ⟨hc, _⟩ | ⟨a, len, cap, m, k, D, Pl, hc, _, _, _, _, hx, _⟩
  · rw [hc] at hr
    have := vt_len (hr.2 0 _ _ rfl rfl)
    omega
  · rw [hc] at hr
    have h3 := vt_len (hr.2 0 _ _ rfl rfl)
    obtain ⟨rfl, _⟩ := Prod.mk.inj hx
    have h4 := sized_slice hs h1 h2 ht
    rw [List.length_map, List.length_range] at h4
    have h5 := Nat.le_trans h4 hb
    have h6 := Nat.le_of_mul_le_mul_right h5 h0
    omega
end

end Go.Fw

/- The row: potentials and flows that can be read are closed data. -/
namespace Go.Fw
open Go Go.Proofs Go.ChangeShapes Go.WideShapes Go.ChangeAt Go.RowKit

def tPot (den c : Int) (n1 : Bool) (w : List Int) : List T := [.v (.int .i64 den), .v (.int .i64 c), .sl n1 1 (w.map tI)]
section
variable {H : Type} {enc : TypeId × Value → H} {w : World} {spare : Nat → Bool} {held : Bool}
theorem rd_pot {fuel : Nat} {cs : List Value} {x} (h : DataW.trod enc Try.prog w 0 spare held fuel 31 cs = some x) : ∃ (den c : Int) (n1 : Bool) (l : List Int), Rd w cs (tPot den c n1 l) := by
  obtain ⟨hl, hf⟩ := rd_struct cx_ok (t := 31) rfl h
  obtain ⟨n0, y0, h0⟩ := hf 0 3 _ (by decide) rfl
  obtain ⟨n1, y1, h1⟩ := hf 1 3 _ (by decide) rfl
  obtain ⟨n2, y2, h2⟩ := hf 2 23 _ (by decide) rfl
  obtain ⟨a, ha⟩ := rd_int cx_ok (t := 3) rfl h0
  obtain ⟨b, hb⟩ := rd_int cx_ok (t := 3) rfl h1
  obtain ⟨nc, c, hc⟩ := rd_ints h2
  refine ⟨a, b, nc, c, hl, fun i x v hx hv => ?_⟩
  match i with
  | 0 => exact ha.part 0 x v hx hv
  | 1 => exact hb.part 0 x v hx hv
  | 2 => exact hc.part 0 x v hx hv
  | i + 3 => simp [tPot] at hx
theorem vl_pot {den c : Int} {n1 : Bool} {l : List Int} {v : Value} (h : Rd w v.cells.toList (tPot den c n1 l)) (hv : ∃ cs, v = .agg cs) : VL noKeys (oldB w) w (.pot den c n1 l) v := by
  obtain ⟨cs, rfl⟩ := hv
  have h' : Rd w cs.toList (tPot den c n1 l) := h
  obtain ⟨h1, h2⟩ := h'
  rw [show cs = cs.toList.toArray by simp]
  generalize cs.toList = l at h1 h2
  match l, h1 with
  | [a, b, c], _ =>
    have g0 := h2 0 _ a rfl rfl
    have g1 := h2 1 _ b rfl rfl
    have g2 := h2 2 _ c rfl rfl
    refine .agg _ _ rfl (fun i x v hx hv => ?_) fun v hv => ?_
    · match i with
      | 0 => simp at hx hv; subst hx; subst hv; exact .t _ _ g0
      | 1 => simp at hx hv; subst hx; subst hv; exact .t _ _ g1
      | 2 => simp at hx hv; subst hx; subst hv; exact .t _ _ g2
      | i + 3 => simp at hx
    · simp at hv
      rcases hv with rfl | rfl | rfl
      · exact g0.one
      · exact g1.one
      · exact g2.one
end
theorem und31 : ∃ fs, Try.prog.underlying 31 = some (.struct fs) := by
  obtain ⟨d, h1, h2⟩ := und_ty cx_ok (t := 31) rfl
  cases d <;> simp [descOf] at h2
  exact ⟨_, h1⟩

end Go.Fw

/- How often each action stands in a plan: the reference's count, the program's. -/
namespace Go.Fw
open Go Go.Proofs
set_option maxRecDepth 10000

def cntStep (b : List Int) (x : Int) : List Int := b.set x.toNat (wAt b x.toNat + 1)
def cntL (n : Nat) (p : List Int) : List Int := p.foldl cntStep (List.replicate n 0)
theorem cnt_len (p : List Int) : ∀ b : List Int, (p.foldl cntStep b).length = b.length := by
  induction p with
  | nil => intro b; rfl
  | cons x r ih => intro b; rw [List.foldl_cons, ih, cntStep, List.length_set]
theorem cntL_len (n : Nat) (p : List Int) : (cntL n p).length = n := by rw [cntL, cnt_len, List.length_replicate]
theorem cnt_step {n i : Nat} {p : List Int} (hi : i < p.length) : (p.take (i + 1)).foldl cntStep (List.replicate n 0) = cntStep ((p.take i).foldl cntStep (List.replicate n 0)) p[i] := by
  rw [List.take_add_one, List.getElem?_eq_getElem hi, Option.toList_some, List.foldl_append]; rfl
def cntIn (i : Int) (b : List Int) : Prop := ∀ j, 0 ≤ wAt b j ∧ wAt b j ≤ i
theorem wAt_setI {b : List Int} {i j : Nat} {v : Int} : wAt (b.set i v) j = if i = j ∧ j < b.length then v else wAt b j := wAt_set
theorem cntIn_step {i : Int} {b : List Int} {x : Int} (h : cntIn i b) : cntIn (i + 1) (cntStep b x) := fun j => by
  have h1 := h j
  have h2 := h x.toNat
  rw [cntStep, wAt_set]
  split <;> omega
theorem cntIn_zero (n : Nat) : cntIn 0 (List.replicate n 0) := fun j => by rw [wAt_rep]; omega

def kp21 : Kp := [(3, ([5, 12, 13, 14], [16, 88]))]
theorem f21_spec (t : Task) (n1 : Bool) (p : List Int) (hp : ∀ x ∈ p, 0 ≤ x ∧ x < (t.acts.length : Int)) (ha : t.acts.length ≤ 1000) (hl : p.length ≤ 10000) (out : List Fr) :
    SpecP Try.prog 21 [.task t, .ints n1 p] out fun r ro => r = .ints false (cntL t.acts.length p) ∧ ro = [] := by
  refine SpecP.close (Post := fun r ro => r = .osl (.cur 88) 1 0 (t.acts.map tAct).length ∧ ro = [(88, .row 3 1 ((cntL t.acts.length p).map tI))]) ?_ ?_
  rotate_left
  · rintro r ro ⟨rfl, rfl⟩
    have e : (t.acts.map tAct).length = ((cntL t.acts.length p).map tI).length := by rw [List.length_map, List.length_map, cntL_len]
    rw [e]
    refine ⟨_, .row 88 3 1 0 _ ((cntL t.acts.length p).map tI) (by rw [look_cons, if_pos rfl]) (by simp), ?_, rfl⟩
    rw [← take_all]
  refine spec_body cx_ok kp21 [] (fn := Try.f21) (by kernel_rfl) rfl (by kernel_rfl) rfl (by unfold FnOK; kernel_rfl) fun hok => ?_
  have hfl : (t.acts.map tAct).length = t.acts.length := List.length_map ..
  refine And.intro rfl (And.intro (by omega) (And.intro (by show ((t.acts.map tAct).length : Int) * (8 : Nat) ≤ _; omega) (And.intro (by omega) ?_)))
  refine LoopW.mk (Nat × List Int) (fun u => u.1 ≤ p.length ∧ u.2 = (p.take u.1).foldl cntStep (List.replicate t.acts.length 0) ∧ cntIn u.1 u.2)
    (fun u => [(5, .osl (.cur 88) 1 0 (t.acts.map tAct).length), (12, .ints n1 p), (13, .int (p.map tI).length), (14, .int u.1)])
    (fun u => ⟨out, [(16, .box (cellsTask t)), (88, .row 3 1 (u.2.map tI))]⟩) (fun u => p.length - u.1) (0, List.replicate (t.acts.map tAct).length 0) ⟨Nat.zero_le _, by rw [hfl]; rfl, cntIn_zero _⟩ ⟨rfl, ?_⟩ ?_
  · show (⟨out, [(16, .box (cellsTask t)), (88, .row 3 1 (List.replicate (t.acts.map tAct).length (tI 0)))]⟩ : St) = _
    rw [List.map_replicate]
  rintro ⟨i, b⟩ ⟨hi0, hb, hc⟩
  simp only at hi0 hb hc
  refine And.intro (fun h1 => ?_) fun h1 => ?_
  · have hi : i < p.length := lt_of_dec h1
    have hx := hp _ (List.getElem_mem hi)
    have hbl : b.length = t.acts.length := by rw [hb, cnt_len, List.length_replicate]
    have hfn : p[i].toNat < b.length := by have h2 := hx.1; have h3 := hx.2; omega
    have hcx := hc p[i].toNat
    have hget : (b.map tI)[0 + p[i].toNat]? = some (tI (wAt b p[i].toNat)) := by rw [Nat.zero_add, List.getElem?_map, List.getElem?_eq_getElem hfn, wAt_eq hfn]; rfl
    refine And.intro (by omega) (Exists.intro _ (And.intro (get_map hi) ?_))
    refine And.intro hx.1 (And.intro (by omega) (Exists.intro _ (And.intro hget ?_)))
    refine And.intro (by omega) (And.intro (by omega) ?_)
    refine And.intro hx.1 (And.intro (by omega) (Exists.intro _ (And.intro hget (And.intro (Nat.le_refl 1) ?_))))
    refine And.intro (by omega) (And.intro (by omega) ?_)
    refine Exists.intro (i + 1, cntStep b p[i]) (And.intro (by show p.length - (i + 1) < p.length - i; omega) (And.intro ⟨hi, by rw [cnt_step hi, ← hb], cntIn_step hc⟩ (And.intro rfl ?_)))
    have e : (cntStep b p[i]).map tI = (b.map tI).set (0 + p[i].toNat) (tI (wAt b p[i].toNat + 1)) := by
      rw [Nat.zero_add, cntStep, List.map_set]
    show _ = (⟨out, [(16, .box (cellsTask t)), (88, .row 3 1 ((cntStep b p[i]).map tI))]⟩ : St)
    rw [e]
    rfl
  · have hi : i = p.length := by have := ge_of_dec h1; omega
    refine Exists.intro [88] ⟨rfl, ?_⟩
    rw [hi, List.take_length] at hb
    show [((88 : Nat), Ob.row 3 1 (b.map tI))] = _
    rw [hb]; rfl

theorem isB_acts {t : Task} (h : isB t = true) : t.acts.length ≤ 1000 := by
  simp only [isB, Bool.and_eq_true, decide_eq_true_eq] at h; exact h.1.1.2
theorem planB_len {t : Task} {p : List Int} (h : planB t p = true) : p.length ≤ 10000 := by
  simp only [planB, Bool.and_eq_true, decide_eq_true_eq] at h; exact h.1
theorem planB_in {t : Task} {p : List Int} (h : planB t p = true) : ∀ x ∈ p, 0 ≤ x ∧ x < (t.acts.length : Int) := fun x hx => by
  simp only [planB, Bool.and_eq_true, List.all_eq_true, decide_eq_true_eq] at h; exact h.2 x hx

abbrev LV.flow (u : Int) (n1 : Bool) (w : List Int) : LV := .agg [.int u, .ints n1 w]
abbrev cellsFlow (u : Int) (n1 : Bool) (w : List Int) : List LV := [.int u, .ints n1 w]
abbrev flow0 : LV := .agg [.int 0, .t (.sl true 0 [])]
def kp16 : Kp := [(7, ([4, 6, 30, 31, 32], [32, 224, 48]))]
theorem f16_spec (t : Task) (n1 : Bool) (p : List Int) (out : List Fr) :
    SpecP Try.prog 16 [.task t, .ints n1 p] out fun r ro => (r = match isB t with
      | true => match plainB t && planB t p with
        | true => .tup [.flow 1 false (cntL t.acts.length p), .int 0]
        | false => .tup [.flow 0 true [], .int 1]
      | false => .tup [.flow 0 true [], .int 10]) ∧ ro = [] := by
  refine SpecP.close (Post := fun r ro => ∃ σ, (r = match isB t with
      | true => match plainB t && planB t p with
        | true => .tup [.agg [.int 1, .osl (.cur σ) 1 0 (t.acts.map tAct).length], .int 0]
        | false => .tup [flow0, .int 1]
      | false => .tup [flow0, .int 10]) ∧ (isB t = true → (plainB t && planB t p) = true → look ro σ = some (.row 3 1 ((cntL t.acts.length p).map tI)))) ?_ ?_
  rotate_left
  · rintro r ro ⟨σ, rfl, h2⟩
    refine ⟨_, ?_, rfl, rfl⟩
    cases hB : isB t with
    | false => exact .pair _ _ _ _ (.agg _ _ rfl fun i x y hx hy => by
        match i with
        | 0 => simp at hx hy; subst hx hy; exact .same _
        | 1 => simp at hx hy; subst hx hy; exact .nil _ _) (.same _)
    | true =>
      cases hP : plainB t && planB t p with
      | false => exact .pair _ _ _ _ (.agg _ _ rfl fun i x y hx hy => by
          match i with
          | 0 => simp at hx hy; subst hx hy; exact .same _
          | 1 => simp at hx hy; subst hx hy; exact .nil _ _) (.same _)
      | true =>
        have h3 := h2 hB hP
        have e : (t.acts.map tAct).length = ((cntL t.acts.length p).map tI).length := by rw [List.length_map, List.length_map, cntL_len]
        rw [e]
        refine .pair _ _ _ _ (.agg _ _ rfl fun i x y hx hy => ?_) (.same _)
        match i with
        | 0 => simp at hx hy; subst hx hy; exact .same _
        | 1 =>
          simp at hx hy; subst hx hy
          have := ClsV.row (ro := ro) σ 3 1 0 ((cntL t.acts.length p).map tI).length _ h3 (by simp)
          rw [← take_all] at this
          simpa using this
  refine spec_body cx_ok kp16 [] (fn := Try.f16) (by kernel_rfl) rfl (by kernel_rfl) rfl (by unfold FnOK; kernel_rfl) fun hok => ?_
  refine SpecP.mono (f49_spec t _) ?_
  rintro _ _ ⟨rfl, rfl⟩
  refine And.intro (fun h1 => ?_) fun h1 => ?_
  rotate_left
  · refine Exists.intro [] ⟨0, ?_, fun h => absurd (h1.symm.trans h) (by decide)⟩
    rw [h1]; rfl
  refine SpecP.mono (f38_spec t _) ?_
  rintro _ _ ⟨rfl, rfl⟩
  have bad : (plainB t && planB t p) = false → ∃ σ : Nat, (LV.tup [flow0, .int 1] = match isB t with
      | true => match plainB t && planB t p with
        | true => .tup [.agg [.int 1, .osl (.cur σ) 1 0 (t.acts.map tAct).length], .int 0]
        | false => .tup [flow0, .int 1]
      | false => .tup [flow0, .int 10]) ∧ (isB t = true → (plainB t && planB t p) = true → look ([] : Fr) σ = some (.row 3 1 ((cntL t.acts.length p).map tI))) := fun h => by
    refine ⟨0, ?_, fun _ h2 => absurd (h.symm.trans h2) (by decide)⟩
    rw [h1, h]
  refine And.intro (fun h2 => ?_) fun h2 => ?_
  rotate_left
  · exact Exists.intro [] (bad (by rw [h2]; rfl))
  refine SpecP.mono (f50_spec t n1 p _) ?_
  rintro _ _ ⟨rfl, rfl⟩
  refine And.intro (fun h3 => ?_) fun h3 => ?_
  rotate_left
  · exact Exists.intro [] (bad (by rw [h3, Bool.and_false]))
  have hacts := isB_acts h1
  have hpl := planB_len h3
  have hp := planB_in h3
  have hfl : (t.acts.map tAct).length = t.acts.length := List.length_map ..
  refine And.intro rfl (And.intro (by omega) (And.intro (by show ((t.acts.map tAct).length : Int) * (8 : Nat) ≤ _; omega) (And.intro (by omega) ?_)))
  refine LoopW.mk (Nat × List Int) (fun u => u.1 ≤ p.length ∧ u.2 = (p.take u.1).foldl cntStep (List.replicate t.acts.length 0) ∧ cntIn u.1 u.2)
    (fun u => [(4, .ptr (.cur 32) 0), (6, .ptr (.cur 48) 0), (30, .ints n1 p), (31, .int (p.map tI).length), (32, .int u.1)])
    (fun u => ⟨out, [(32, .box [.int 0, .t (.sl true 0 [])]), (224, .row 3 1 (u.2.map tI)), (48, .box [.int 1, .osl (.cur 224) 1 0 (t.acts.map tAct).length])]⟩) (fun u => p.length - u.1) (0, List.replicate (t.acts.map tAct).length 0) ⟨Nat.zero_le _, by rw [hfl]; rfl, cntIn_zero _⟩ ⟨rfl, ?_⟩ ?_
  · show (⟨out, [(32, .box [.int 0, .t (.sl true 0 [])]), (224, .row 3 1 (List.replicate (t.acts.map tAct).length (tI 0))), (48, .box [.int 1, .osl (.cur 224) 1 0 (t.acts.map tAct).length])]⟩ : St) = _
    rw [List.map_replicate]
  rintro ⟨i, b⟩ ⟨hi0, hb, hc⟩
  simp only at hi0 hb hc
  refine And.intro (fun h4 => ?_) fun h4 => ?_
  · have hi : i < p.length := lt_of_dec h4
    have hx := hp _ (List.getElem_mem hi)
    have hbl : b.length = t.acts.length := by rw [hb, cnt_len, List.length_replicate]
    have hfn : p[i].toNat < b.length := by have h2 := hx.1; have h3 := hx.2; omega
    have hcx := hc p[i].toNat
    have hget : (b.map tI)[0 + p[i].toNat]? = some (tI (wAt b p[i].toNat)) := by rw [Nat.zero_add, List.getElem?_map, List.getElem?_eq_getElem hfn, wAt_eq hfn]; rfl
    refine And.intro (by omega) (Exists.intro _ (And.intro (get_map hi) ?_))
    refine And.intro hx.1 (And.intro (by omega) (Exists.intro _ (And.intro hget ?_)))
    refine And.intro (by omega) (And.intro (by omega) ?_)
    refine And.intro hx.1 (And.intro (by omega) (Exists.intro _ (And.intro hget (And.intro (Nat.le_refl 1) ?_))))
    refine And.intro (by omega) (And.intro (by omega) ?_)
    refine Exists.intro (i + 1, cntStep b p[i]) (And.intro (by show p.length - (i + 1) < p.length - i; omega) (And.intro ⟨hi, by rw [cnt_step hi, ← hb], cntIn_step hc⟩ (And.intro rfl ?_)))
    have e : (cntStep b p[i]).map tI = (b.map tI).set (0 + p[i].toNat) (tI (wAt b p[i].toNat + 1)) := by
      rw [Nat.zero_add, cntStep, List.map_set]
    show _ = (⟨out, [(32, .box [.int 0, .t (.sl true 0 [])]), (224, .row 3 1 ((cntStep b p[i]).map tI)), (48, .box [.int 1, .osl (.cur 224) 1 0 (t.acts.map tAct).length])]⟩ : St)
    rw [e]
    rfl
  · have hi : i = p.length := by have := ge_of_dec h4; omega
    rw [hi, List.take_length] at hb
    refine Exists.intro [224] ⟨224, ?_, fun _ _ => ?_⟩
    · rw [h1, h2, h3]; rfl
    · show look [((224 : Nat), Ob.row 3 1 (b.map tI))] 224 = _
      rw [hb]; rfl
end Go.Fw

/- Flows: the sums of what actions change. -/
namespace Go.Fw
open Go Go.Proofs
set_option maxRecDepth 10000

def badT (x : Int) : Bool := !(decide (0 ≤ x) && decide (x ≤ 1125899906842624))
theorem f88_spec (x : Int) (out : List Fr) : SpecP Try.prog 88 [.int x] out fun r ro => r = .bool (badT x) ∧ ro = [] := by
  refine spec_body cx_ok [] [] (fn := Try.f88) (by kernel_rfl) rfl (by kernel_rfl) rfl (by unfold FnOK; kernel_rfl) fun hok => ?_
  refine And.intro (fun h => ?_) fun h => ?_
  · have h := of_decide_eq_true h
    exact Exists.intro [] (ret_bool (by simp [badT]; omega) rfl)
  have h := of_decide_eq_false h
  refine And.intro (fun h2 => ?_) fun h2 => ?_
  · have h2 := of_decide_eq_true h2
    exact Exists.intro [] (ret_bool (by simp [badT]; omega) rfl)
  · have h2 := of_decide_eq_false h2
    exact Exists.intro [] (ret_bool (by simp [badT]; omega) rfl)
theorem f103_t (n1 : Bool) (l : List Int) (out : List Fr) :
    SpecP Try.prog 103 [.ints n1 l, .fn 88 []] out fun r ro => ∃ j : Int, r = .int j ∧ decide (0 ≤ j) = l.any badT ∧ ro = [] := by
  refine spec_body cx_ok kq103 [] (fn := Try.f103) (by kernel_rfl) rfl (by kernel_rfl) rfl (by unfold FnOK; kernel_rfl) fun hok => ?_
  have hmx := le_max hok.1.1
  refine LoopW.mk Nat (fun i => i ≤ l.length ∧ (l.take i).any badT = false) (fun i => [(0, .ints n1 l), (1, .fn 88 []), (7, .int (l.map tI).length), (8, .int i)]) (fun _ => ⟨out, []⟩) (fun i => l.length - i) 0 ⟨Nat.zero_le _, rfl⟩ ⟨rfl, rfl⟩ fun i hI => ?_
  refine And.intro (fun h1 => ?_) fun h1 => ?_
  · have hi := lt_of_dec h1
    refine And.intro (by omega) (Exists.intro _ (And.intro (get_map hi) ?_))
    refine SpecP.mono (f88_spec _ _) ?_
    rintro _ _ ⟨rfl, rfl⟩
    refine And.intro (fun h2 => ?_) fun h2 => ?_
    · exact Exists.intro [] ⟨_, rfl, by rw [any_true (p := badT) hi h2]; simp, rfl⟩
    · refine And.intro (by omega) (And.intro (by omega) ?_)
      exact Exists.intro (i + 1) (And.intro (by show l.length - (i + 1) < l.length - i; omega) (And.intro ⟨hi, any_step (p := badT) hi hI.2 h2⟩ (And.intro rfl rfl)))
  · exact Exists.intro [] ⟨_, rfl, by rw [any_end (ge_of_dec h1) hI.2]; rfl, rfl⟩
theorem f84_t (n1 : Bool) (l : List Int) (out : List Fr) :
    SpecP Try.prog 84 [.ints n1 l, .fn 88 []] out fun r ro => r = .bool (l.any badT) ∧ ro = [] := by
  refine spec_body cx_ok [] [] (fn := Try.f84) (by kernel_rfl) rfl (by kernel_rfl) rfl (by unfold FnOK; kernel_rfl) fun hok => ?_
  refine SpecP.mono (f103_t n1 l _) ?_
  rintro _ _ ⟨j, rfl, hj, rfl⟩
  refine And.intro (fun h => ?_) fun h => ?_
  · exact Exists.intro [] (ret_bool (by rw [← hj]; simpa using h) rfl)
  · exact Exists.intro [] (ret_bool (by rw [← hj]; simpa using h) rfl)

/-! ### The sums -/
def nowD (c x : Int) : Int := if c = 1 then x else if c = 3 then -x else 0
def lowD (c x : Int) : Int := if c = 2 then -x else 0
def highD (c x : Int) : Int := if c = 4 then x else 0
def chA (t : Task) (a f : Nat) : Int := match t.acts[a]? with
  | some x => wAt (changesL t.facts.length x) f
  | none => 0
def nowS (t : Task) (w : List Int) (f n : Nat) : Int := sumZ (fun a => nowD (chA t a f) (wAt w a)) n
def lowS (t : Task) (w : List Int) (f n : Nat) : Int := sumZ (fun a => lowD (chA t a f) (wAt w a)) n
def highS (t : Task) (w : List Int) (f n : Nat) : Int := sumZ (fun a => highD (chA t a f) (wAt w a)) n
def lowI (s den : Int) : Int := if s = 1 then den else 0
def highI (s den : Int) : Int := if s ≥ 0 then den else 0
def nowI (l : List Int) (f : Nat) (den : Int) : Int := if (f : Int) ∈ l then den else 0
def lowF (t : Task) (den : Int) (w : List Int) (f n : Nat) : Int := lowI (wAt (signsL t.facts.length t.goal) f) den + lowS t w f n
def highF (t : Task) (den : Int) (w : List Int) (f n : Nat) : Int := highI (wAt (signsL t.facts.length t.goal) f) den + highS t w f n
def nowF (t : Task) (s : List Int) (den : Int) (w : List Int) (f n : Nat) : Int := nowI s f den + nowS t w f n
def inF (t : Task) (s : List Int) (den : Int) (w : List Int) (f : Nat) : Bool :=
  !(decide (nowF t s den w f t.acts.length < lowF t den w f t.acts.length) || decide (nowF t s den w f t.acts.length > highF t den w f t.acts.length))
def flowB (t : Task) (s : List Int) (den : Int) (w : List Int) : Bool :=
  (decide (1 ≤ den) && decide (den ≤ 1073741824)) && (w.length == t.acts.length) && !w.any badT && (List.range t.facts.length).all (inF t s den w)
def SmallT (w : List Int) : Prop := ∀ x ∈ w, 0 ≤ x ∧ x ≤ 1125899906842624
theorem wAtT_in {w : List Int} (hw : SmallT w) (i : Nat) : 0 ≤ wAt w i ∧ wAt w i ≤ 1125899906842624 := by
  by_cases hi : i < w.length
  · rw [wAt_eq hi]; exact hw _ (List.getElem_mem hi)
  · rw [wAt, List.getD_eq_getElem?_getD, List.getElem?_eq_none (by omega)]; simp
theorem smallT {w : List Int} (h : w.any badT = false) : SmallT w := fun x hx => by
  rw [List.any_eq_false] at h
  have := h x hx
  simp [badT] at this
  exact this
theorem nowD_in {c x : Int} (h : 0 ≤ x ∧ x ≤ 1125899906842624) : -1125899906842624 ≤ nowD c x ∧ nowD c x ≤ 1125899906842624 := by unfold nowD; split <;> (try split) <;> omega
theorem lowD_in {c x : Int} (h : 0 ≤ x ∧ x ≤ 1125899906842624) : -1125899906842624 ≤ lowD c x ∧ lowD c x ≤ 1125899906842624 := by unfold lowD; split <;> omega
theorem highD_in {c x : Int} (h : 0 ≤ x ∧ x ≤ 1125899906842624) : -1125899906842624 ≤ highD c x ∧ highD c x ≤ 1125899906842624 := by unfold highD; split <;> omega
def Bnd (x : Int) : Prop := -1125899907916366000 ≤ x ∧ x ≤ 1125899907916366000
theorem nowS_in {t : Task} {w : List Int} (hw : SmallT w) {f n : Nat} (hn : n ≤ 1000) : -1125899906842624000 ≤ nowS t w f n ∧ nowS t w f n ≤ 1125899906842624000 := by
  have := sumZ_in (f := fun a => nowD (chA t a f) (wAt w a)) (b := 1125899906842624) (n := n) fun a _ => nowD_in (wAtT_in hw a)
  rw [nowS]; omega
theorem lowS_in {t : Task} {w : List Int} (hw : SmallT w) {f n : Nat} (hn : n ≤ 1000) : -1125899906842624000 ≤ lowS t w f n ∧ lowS t w f n ≤ 1125899906842624000 := by
  have := sumZ_in (f := fun a => lowD (chA t a f) (wAt w a)) (b := 1125899906842624) (n := n) fun a _ => lowD_in (wAtT_in hw a)
  rw [lowS]; omega
theorem highS_in {t : Task} {w : List Int} (hw : SmallT w) {f n : Nat} (hn : n ≤ 1000) : -1125899906842624000 ≤ highS t w f n ∧ highS t w f n ≤ 1125899906842624000 := by
  have := sumZ_in (f := fun a => highD (chA t a f) (wAt w a)) (b := 1125899906842624) (n := n) fun a _ => highD_in (wAtT_in hw a)
  rw [highS]; omega
theorem lowF_in {t : Task} {den : Int} {w : List Int} (hd : 1 ≤ den ∧ den ≤ 1073741824) (hw : SmallT w) {f n : Nat} (hn : n ≤ 1000) : Bnd (lowF t den w f n) := by
  have := lowS_in (t := t) hw (f := f) hn
  unfold Bnd lowF lowI; split <;> omega
theorem highF_in {t : Task} {den : Int} {w : List Int} (hd : 1 ≤ den ∧ den ≤ 1073741824) (hw : SmallT w) {f n : Nat} (hn : n ≤ 1000) : Bnd (highF t den w f n) := by
  have := highS_in (t := t) hw (f := f) hn
  unfold Bnd highF highI; split <;> omega
theorem nowF_in {t : Task} {s : List Int} {den : Int} {w : List Int} (hd : 1 ≤ den ∧ den ≤ 1073741824) (hw : SmallT w) {f n : Nat} (hn : n ≤ 1000) : Bnd (nowF t s den w f n) := by
  have := nowS_in (t := t) hw (f := f) hn
  unfold Bnd nowF nowI; split <;> omega
theorem lowF_step (t : Task) (den : Int) (w : List Int) (f n : Nat) : lowF t den w f (n + 1) = lowF t den w f n + lowD (chA t n f) (wAt w n) := by
  rw [lowF, lowF, lowS, lowS, sumZ, Int.add_assoc]
theorem highF_step (t : Task) (den : Int) (w : List Int) (f n : Nat) : highF t den w f (n + 1) = highF t den w f n + highD (chA t n f) (wAt w n) := by
  rw [highF, highF, highS, highS, sumZ, Int.add_assoc]
theorem nowF_step (t : Task) (s : List Int) (den : Int) (w : List Int) (f n : Nat) : nowF t s den w f (n + 1) = nowF t s den w f n + nowD (chA t n f) (wAt w n) := by
  rw [nowF, nowF, nowS, nowS, sumZ, Int.add_assoc]
theorem chA_eq {t : Task} {a : Nat} (h : a < t.acts.length) (f : Nat) : chA t a f = wAt (changesL t.facts.length t.acts[a]) f := by
  rw [chA, List.getElem?_eq_getElem h]
/-- A list tells a function below n. -/
def Is (l : List Int) (n : Nat) (g : Nat → Int) : Prop := l.length = n ∧ ∀ f, f < n → wAt l f = g f
theorem Is.set {l : List Int} {n : Nat} {g g' : Nat → Int} {i : Nat} {v : Int} (h : Is l n g) (hv : i < n → v = g' i) (hg : ∀ f, f < n → f ≠ i → g' f = g f) : Is (l.set i v) n g' :=
  ⟨by rw [List.length_set]; exact h.1, fun f hf => by
    rw [wAt_set]
    by_cases e : i = f
    · subst e; rw [if_pos ⟨rfl, by rw [h.1]; exact hf⟩, hv hf]
    · rw [if_neg fun x => e x.1, h.2 f hf, hg f hf fun x => e x.symm]⟩
theorem Is.congr {l : List Int} {n : Nat} {g g' : Nat → Int} (h : Is l n g) (hg : ∀ f, f < n → g' f = g f) : Is l n g' := ⟨h.1, fun f hf => by rw [h.2 f hf, hg f hf]⟩
theorem Is.get {l : List Int} {n : Nat} {g : Nat → Int} (h : Is l n g) {f : Nat} (hf : f < n) : (l.map tI)[0 + f]? = some (tI (g f)) := by
  have hl : f < l.length := by rw [h.1]; exact hf
  rw [Nat.zero_add, List.getElem?_map, List.getElem?_eq_getElem hl, ← h.2 f hf, wAt_eq hl]; rfl
theorem Is.zero (n : Nat) : Is (List.replicate n 0) n fun _ => 0 := ⟨List.length_replicate, fun f _ => wAt_rep n f⟩

end Go.Fw

/- Flows: the program's check (46). -/
namespace Go.Fw
open Go Go.Proofs
set_option maxRecDepth 10000

def kp46 : Kp := [(6, ([1, 3, 5, 8, 9, 10, 59, 60, 61], [24, 40, 400, 432, 464])), (14, ([3, 5, 8, 9, 10, 81, 82, 83], [24, 40, 400, 432, 464])), (19, ([3, 5, 8, 9, 10, 94, 95, 96], [24, 40, 400, 432, 464])), (22, ([3, 5, 8, 9, 10, 15, 94, 95, 96, 103, 104, 105], [24, 40, 400, 432, 464])), (36, ([8, 9, 165, 166, 167], [400, 432, 464]))]
def od46 : Od := [(4, [(0, .tree (.pure 0 (.pure 1 (.pure 2 (.pure 4 (.pure 5 (.pure 6 (.pure 8 (.pure 9 (.pure 10 (.fork 3 (.pure 12 (.fork 7 (.pure 13 (.last 11 (.pure 14 .done) [0, 1, 2, 4, 5, 6, 12, 13])) [0, 1, 2, 8, 9, 10, 12] (.last 11 (.last 7 (.pure 13 (.pure 14 .done)) [0, 1, 2, 8, 9, 10, 12]) [0, 1, 2, 4, 5, 6, 12]))) [4, 5, 6, 8, 9, 10] (.fork 7 (.fork 3 (.pure 12 (.pure 13 (.last 11 (.pure 14 .done) [0, 1, 2, 4, 5, 6, 12, 13]))) [4, 5, 6, 8, 9, 10] (.last 11 (.last 3 (.pure 12 (.pure 13 (.pure 14 .done))) [4, 5, 6, 8, 9, 10]) [0, 1, 2, 4, 5, 6])) [0, 1, 2, 8, 9, 10] (.last 11 (.fork 3 (.pure 12 (.last 7 (.pure 13 (.pure 14 .done)) [0, 1, 2, 8, 9, 10, 12])) [4, 5, 6, 8, 9, 10] (.last 7 (.last 3 (.pure 12 (.pure 13 (.pure 14 .done))) [4, 5, 6, 8, 9, 10]) [0, 1, 2, 8, 9, 10])) [0, 1, 2, 4, 5, 6])))))))))))))]), (26, [(0, .tree (.pure 0 (.pure 1 (.pure 2 (.pure 3 (.pure 4 (.pure 5 (.pure 6 (.pure 7 (.pure 8 (.pure 9 (.pure 10 (.last 11 .done [])))))))))))))]), (28, [(0, .tree (.pure 0 (.pure 1 (.pure 2 (.pure 3 (.pure 4 (.pure 5 (.pure 6 (.pure 7 (.pure 8 (.pure 9 (.pure 10 (.last 11 .done [])))))))))))))]), (30, [(0, .tree (.pure 0 (.pure 1 (.pure 2 (.pure 3 (.pure 4 (.pure 5 (.pure 6 (.pure 7 (.pure 8 (.pure 9 (.pure 10 (.last 11 .done [])))))))))))))]), (32, [(0, .tree (.pure 0 (.pure 1 (.pure 2 (.pure 3 (.pure 4 (.pure 5 (.pure 6 (.pure 7 (.pure 8 (.pure 9 (.pure 10 (.last 11 .done [])))))))))))))])]
abbrev stFl (out : List Fr) (t : Task) (den : Int) (n2 : Bool) (w lo hi nw : List Int) : St :=
  ⟨out, [(24, .box (cellsTask t)), (40, .box (cellsFlow den n2 w)), (400, .row 3 1 (lo.map tI)), (432, .row 3 1 (hi.map tI)), (464, .row 3 1 (nw.map tI))]⟩
theorem Is.getI {l : List Int} {n : Nat} {g : Nat → Int} (h : Is l n g) {f : Nat} (hf : f < n) : (l.map tI)[0 + ((f : Nat) : Int).toNat]? = some (tI (g f)) := by
  rw [Int.toNat_natCast]; exact h.get hf
theorem setI (l : List Int) (f : Nat) (v : Int) : (l.map tI).set (0 + ((f : Nat) : Int).toNat) (tI v) = (l.set f v).map tI := by rw [Nat.zero_add, Int.toNat_natCast, List.map_set]
theorem setZ (l : List Int) (f v : Int) : (l.map tI).set (0 + f.toNat) (tI v) = (l.set f.toNat v).map tI := by rw [Nat.zero_add, List.map_set]
theorem stFl3 {out : List Fr} {t : Task} {den : Int} {n2 : Bool} {w lo hi nw : List Int} {L H N : List (List T)} (h1 : L = lo.map tI) (h2 : H = hi.map tI) (h3 : N = nw.map tI) :
    (⟨out, [(24, .box (cellsTask t)), (40, .box (cellsFlow den n2 w)), (400, .row 3 1 L), (432, .row 3 1 H), (464, .row 3 1 N)]⟩ : St) = stFl out t den n2 w lo hi nw := by
  subst h1 h2 h3; rfl
theorem now_step {s : List Int} {i f : Nat} {den : Int} (hi : i < s.length) (hx : 0 ≤ s[i]) : nowI (s.take (i + 1)) f den = if f = s[i].toNat then den else nowI (s.take i) f den := by
  rw [nowI, nowI, List.take_add_one, List.getElem?_eq_getElem hi, Option.toList_some]
  by_cases e : f = s[i].toNat
  · rw [if_pos e, if_pos]
    simp only [List.mem_append, List.mem_singleton]
    exact .inr (by omega)
  · rw [if_neg e]
    have : ((f : Int) ∈ s.take i ++ [s[i]]) ↔ (f : Int) ∈ s.take i := by
      simp only [List.mem_append, List.mem_singleton]
      exact ⟨fun h => h.elim id fun h => absurd h (by omega), .inl⟩
    simp only [this]
theorem share {A T : Prop} (h1 : T → A) (h2 : T) : A := h1 h2
set_option maxHeartbeats 4000000 in
theorem f46_spec (t : Task) (n1 : Bool) (s : List Int) (den : Int) (n2 : Bool) (w : List Int) (hN : t.facts.length ≤ 200) (hA : t.acts.length ≤ 1000) (hs : ∀ x ∈ s, 0 ≤ x ∧ x < (t.facts.length : Int))
    (hg : ∀ x ∈ t.goal, litIn t.facts.length x) (hp : ∀ a ∈ t.acts, ∀ x ∈ a.pre, litIn t.facts.length x) (he : ∀ a ∈ t.acts, ∀ e ∈ a.effs, litIn t.facts.length e.lit) (out : List Fr) :
    SpecP Try.prog 46 [.task t, .ints n1 s, .flow den n2 w] out fun r ro => r = .bool (flowB t s den w) ∧ ro = [] := by
  refine spec_body cx_ok kp46 od46 (fn := Try.f46) (by kernel_rfl) rfl (by kernel_rfl) rfl (by unfold FnOK; kernel_rfl) fun hok => ?_
  have hms := le_max hok.2.1.1
  refine And.intro (fun h1 => ?_) fun h1 => ?_
  · have h1 := of_decide_eq_true h1
    refine Exists.intro [] (ret_bool ?_ rfl)
    rw [flowB, decide_eq_false (p := 1 ≤ den) (by omega)]; simp
  refine And.intro (fun h2 => ?_) fun h2 => ?_
  · have h2 := of_decide_eq_true h2
    refine Exists.intro [] (ret_bool ?_ rfl)
    rw [flowB, decide_eq_false (p := den ≤ 1073741824) (by omega)]; simp
  refine And.intro (fun h3 => ?_) fun h3 => ?_
  · refine Exists.intro [] (ret_bool ?_ rfl)
    have h3' : (w.length == t.acts.length) = false := by
      simp at h3; simp; omega
    rw [flowB, h3']; simp
  refine SpecP.mono (f84_t n2 w _) ?_
  rintro _ _ ⟨rfl, rfl⟩
  refine And.intro (fun h4 => ?_) fun h4 => ?_
  · refine Exists.intro [] (ret_bool ?_ rfl)
    rw [flowB, h4]; simp
  have h1 := of_decide_eq_false h1
  have h2 := of_decide_eq_false h2
  have hd : 1 ≤ den ∧ den ≤ 1073741824 := by omega
  have hl : w.length = t.acts.length := by simp at h3; omega
  have hw := smallT h4
  have hflow : flowB t s den w = (List.range t.facts.length).all (inF t s den w) := by
    rw [flowB, h4, decide_eq_true hd.1, decide_eq_true hd.2, hl]; simp
  refine SpecP.mono (f73_spec t t.gn t.goal (by omega) hg _) ?_
  rintro _ _ ⟨rfl, rfl⟩
  have hfl : (t.facts.map tS).length = t.facts.length := List.length_map ..
  have hSl := signsL_len t.facts.length t.goal
  have hLF : ∀ f, lowF t den w f 0 = lowI (wAt (signsL t.facts.length t.goal) f) den := fun f => by rw [lowF, lowS, sumZ, Int.add_zero]
  have hHF : ∀ f, highF t den w f 0 = highI (wAt (signsL t.facts.length t.goal) f) den := fun f => by rw [highF, highS, sumZ, Int.add_zero]
  have hNF : ∀ f, nowF t s den w f 0 = nowI s f den := fun f => by rw [nowF, nowS, sumZ, Int.add_zero]
  generalize hSd : signsL t.facts.length t.goal = S at hSl hLF hHF
  apply share
  · intro body
    repeat' (first
      | refine And.intro rfl (And.intro (by clear body; omega) (And.intro (by clear body; show ((t.facts.map tS).length : Int) * (8 : Nat) ≤ _; omega) (And.intro (by clear body; omega) ?_)))
      | refine And.intro rfl ?_
      | refine And.intro ?_ ?_
      | fail)
    all_goals
      refine LoopW.mk (Nat × List Int × List Int) (fun u => u.1 ≤ S.length ∧ Is u.2.1 t.facts.length (fun f => if f < u.1 then lowI (wAt S f) den else 0) ∧ Is u.2.2 t.facts.length (fun f => if f < u.1 then highI (wAt S f) den else 0))
        (fun u => [(1, .ints n1 s), (3, .ptr (.cur 24) 0), (5, .ptr (.cur 40) 0), (8, .osl (.cur 400) 1 0 (t.facts.map tS).length), (9, .osl (.cur 432) 1 0 (t.facts.map tS).length), (10, .osl (.cur 464) 1 0 (t.facts.map tS).length), (59, .ints false S), (60, .int (S.map tI).length), (61, .int u.1)])
        (fun u => stFl out t den n2 w u.2.1 u.2.2 (List.replicate t.facts.length 0))
        (fun u => S.length - u.1) (0, List.replicate t.facts.length 0, List.replicate t.facts.length 0) ⟨Nat.zero_le _, (Is.zero _).congr fun f _ => if_neg (by simp), (Is.zero _).congr fun f _ => if_neg (by simp)⟩ ⟨rfl, ?_⟩ body
      show (⟨out, [(24, .box (cellsTask t)), (40, .box (cellsFlow den n2 w)), (400, .row 3 1 (List.replicate (t.facts.map tS).length (tI 0))), (432, .row 3 1 (List.replicate (t.facts.map tS).length (tI 0))), (464, .row 3 1 (List.replicate (t.facts.map tS).length (tI 0)))]⟩ : St) = _
      rw [stFl, List.map_replicate, hfl]
  rintro ⟨i, lo, hi⟩ ⟨hi0, hlo, hhi⟩
  simp only at hi0 hlo hhi
  refine And.intro (fun h5 => ?_) fun h5 => ?_
  · have hi' : i < S.length := lt_of_dec h5
    have hin : i < t.facts.length := by omega
    have hil : (i : Int) < (((t.facts.map tS).length : Nat) : Int) := by omega
    have hL1 : S[i] = 1 → Is (lo.set i den) t.facts.length (fun f => if f < i + 1 then lowI (wAt S f) den else 0) := fun hq => hlo.set (fun _ => by rw [if_pos (Nat.lt_succ_self i), wAt_eq hi', hq, lowI, if_pos rfl]) fun f _ hf => by
      by_cases hfi : f < i
      · rw [if_pos hfi, if_pos (by omega)]
      · rw [if_neg hfi, if_neg (by omega)]
    have hL2 : S[i] ≠ 1 → Is lo t.facts.length (fun f => if f < i + 1 then lowI (wAt S f) den else 0) := fun hq => hlo.congr fun f _ => by
      by_cases hfi : f < i
      · rw [if_pos hfi, if_pos (by omega)]
      · rw [if_neg hfi]
        by_cases e : f = i
        · subst e; rw [if_pos (Nat.lt_succ_self _), wAt_eq hi', lowI, if_neg hq]
        · rw [if_neg (by omega)]
    have hH1 : S[i] ≥ 0 → Is (hi.set i den) t.facts.length (fun f => if f < i + 1 then highI (wAt S f) den else 0) := fun hq => hhi.set (fun _ => by rw [if_pos (Nat.lt_succ_self i), wAt_eq hi', highI, if_pos hq]) fun f _ hf => by
      by_cases hfi : f < i
      · rw [if_pos hfi, if_pos (by omega)]
      · rw [if_neg hfi, if_neg (by omega)]
    have hH2 : ¬ S[i] ≥ 0 → Is hi t.facts.length (fun f => if f < i + 1 then highI (wAt S f) den else 0) := fun hq => hhi.congr fun f _ => by
      by_cases hfi : f < i
      · rw [if_pos hfi, if_pos (by omega)]
      · rw [if_neg hfi]
        by_cases e : f = i
        · subst e; rw [if_pos (Nat.lt_succ_self _), wAt_eq hi', highI, if_neg hq]
        · rw [if_neg (by omega)]
    have hgl := hlo.getI hin
    have hgh := hhi.getI hin
    refine And.intro (Int.natCast_nonneg _) (Exists.intro _ (And.intro (get_map hi') ?_))
    generalize S[i] = q at hL1 hL2 hH1 hH2
    refine And.intro (fun h6 => ?_) fun h6 => ?_
    · have h6' : q = 1 := by simpa using h6
      refine And.intro (Int.natCast_nonneg _) (And.intro hil (Exists.intro _ (And.intro hgl (And.intro (Nat.le_refl 1) ?_))))
      refine And.intro (fun h7 => ?_) fun h7 => ?_
      · have h7' : q ≥ 0 := of_decide_eq_true h7
        refine And.intro (Int.natCast_nonneg _) (And.intro hil (Exists.intro _ (And.intro hgh (And.intro (Nat.le_refl 1) ?_))))
        refine And.intro (by show (-9223372036854775808 : Int) ≤ (i : Int) + 1; omega) (And.intro (by show (i : Int) + 1 ≤ 9223372036854775807; omega) ?_)
        refine Exists.intro (i + 1, lo.set i den, hi.set i den) (And.intro (by show S.length - (i + 1) < S.length - i; omega) (And.intro ⟨hi', hL1 h6', hH1 h7'⟩ (And.intro rfl ?_)))
        exact stFl3 (setI lo i den) (setI hi i den) rfl
      · have h7' := of_decide_eq_false h7
        omega
    · have h6' : q ≠ 1 := by simpa using h6
      refine And.intro (fun h7 => ?_) fun h7 => ?_
      · have h7' : q ≥ 0 := of_decide_eq_true h7
        refine And.intro (Int.natCast_nonneg _) (And.intro hil (Exists.intro _ (And.intro hgh (And.intro (Nat.le_refl 1) ?_))))
        refine And.intro (by show (-9223372036854775808 : Int) ≤ (i : Int) + 1; omega) (And.intro (by show (i : Int) + 1 ≤ 9223372036854775807; omega) ?_)
        refine Exists.intro (i + 1, lo, hi.set i den) (And.intro (by show S.length - (i + 1) < S.length - i; omega) (And.intro ⟨hi', hL2 h6', hH1 h7'⟩ (And.intro rfl ?_)))
        exact stFl3 rfl (setI hi i den) rfl
      · have h7' := of_decide_eq_false h7
        refine And.intro (by show (-9223372036854775808 : Int) ≤ (i : Int) + 1; omega) (And.intro (by show (i : Int) + 1 ≤ 9223372036854775807; omega) ?_)
        exact Exists.intro (i + 1, lo, hi) (And.intro (by show S.length - (i + 1) < S.length - i; omega) (And.intro ⟨hi', hL2 h6', hH2 h7'⟩ (And.intro rfl rfl)))
  have hin : i = t.facts.length := by have := ge_of_dec h5; omega
  have hlo : Is lo t.facts.length (fun f => lowF t den w f 0) := hlo.congr fun f hf => by rw [hLF, if_pos (by omega)]
  have hhi : Is hi t.facts.length (fun f => highF t den w f 0) := hhi.congr fun f hf => by rw [hHF, if_pos (by omega)]
  clear h5 hi0 hin hLF hHF hSd hSl
  refine LoopW.mk (Nat × List Int) (fun u => u.1 ≤ s.length ∧ Is u.2 t.facts.length (fun f => nowI (s.take u.1) f den))
    (fun u => [(3, .ptr (.cur 24) 0), (5, .ptr (.cur 40) 0), (8, .osl (.cur 400) 1 0 (t.facts.map tS).length), (9, .osl (.cur 432) 1 0 (t.facts.map tS).length), (10, .osl (.cur 464) 1 0 (t.facts.map tS).length), (81, .ints n1 s), (82, .int (s.map tI).length), (83, .int u.1)])
    (fun u => stFl out t den n2 w lo hi u.2)
    (fun u => s.length - u.1) (0, List.replicate t.facts.length 0) ⟨Nat.zero_le _, (Is.zero _).congr fun f _ => if_neg (by simp)⟩ ⟨rfl, rfl⟩ ?_
  rintro ⟨i, nw⟩ ⟨hi0, hnw⟩
  simp only at hi0 hnw
  refine And.intro (fun h5 => ?_) fun h5 => ?_
  · have hi' : i < s.length := lt_of_dec h5
    have hx := hs _ (List.getElem_mem hi')
    have hfn : s[i].toNat < t.facts.length := by omega
    refine And.intro (Int.natCast_nonneg _) (Exists.intro _ (And.intro (get_map hi') ?_))
    refine And.intro hx.1 (And.intro (by omega) (Exists.intro _ (And.intro (hnw.get hfn) (And.intro (Nat.le_refl 1) ?_))))
    refine And.intro (by show (-9223372036854775808 : Int) ≤ (i : Int) + 1; omega) (And.intro (by show (i : Int) + 1 ≤ 9223372036854775807; omega) ?_)
    refine Exists.intro (i + 1, nw.set s[i].toNat den) (And.intro (by show s.length - (i + 1) < s.length - i; omega) (And.intro ⟨hi', hnw.set (fun _ => by rw [now_step hi' hx.1, if_pos rfl]) fun f _ hf => by rw [now_step hi' hx.1, if_neg hf]⟩ (And.intro rfl ?_)))
    exact stFl3 rfl rfl (setZ nw s[i] den)
  have hnw : Is nw t.facts.length (fun f => nowF t s den w f 0) := hnw.congr fun f hf => by
    have hi1 : i = s.length := by have := ge_of_dec h5; omega
    rw [hNF, hi1, List.take_length]
  refine LoopW.mk (Nat × List Int × List Int × List Int) (fun u => u.1 ≤ t.acts.length ∧ Is u.2.1 t.facts.length (fun f => lowF t den w f u.1) ∧ Is u.2.2.1 t.facts.length (fun f => highF t den w f u.1) ∧ Is u.2.2.2 t.facts.length (fun f => nowF t s den w f u.1))
    (fun u => [(3, .ptr (.cur 24) 0), (5, .ptr (.cur 40) 0), (8, .osl (.cur 400) 1 0 (t.facts.map tS).length), (9, .osl (.cur 432) 1 0 (t.facts.map tS).length), (10, .osl (.cur 464) 1 0 (t.facts.map tS).length), (94, .acts t.an t.acts), (95, .int (t.acts.map tAct).length), (96, .int u.1)])
    (fun u => stFl out t den n2 w u.2.1 u.2.2.1 u.2.2.2)
    (fun u => t.acts.length - u.1) (0, lo, hi, nw) ⟨Nat.zero_le _, hlo, hhi, hnw⟩ ⟨rfl, rfl⟩ ?_
  rintro ⟨a, lo, hi, nw⟩ ⟨ha0, hlo, hhi, hnw⟩
  simp only at ha0 hlo hhi hnw
  refine And.intro (fun h6 => ?_) fun h6 => ?_
  · have ha : a < t.acts.length := lt_of_dec h6
    have haw : a < w.length := by omega
    have hwx := wAtT_in hw a
    have hgw : (w.map tI)[((a : Nat) : Int).toNat]? = some (tI (wAt w a)) := by rw [Int.toNat_natCast, List.getElem?_map, List.getElem?_eq_getElem haw, wAt_eq haw]; rfl
    refine And.intro (Int.natCast_nonneg _) (Exists.intro _ (And.intro (get_map ha) ?_))
    refine SpecP.mono (f72_spec t t.acts[a] (by omega) (hp _ (List.getElem_mem ha)) (he _ (List.getElem_mem ha)) _) ?_
    rintro _ _ ⟨rfl, rfl⟩
    have hCl := changesL_len t.facts.length t.acts[a]
    have hCa := chA_eq ha
    generalize changesL t.facts.length t.acts[a] = C at hCl hCa
    refine LoopW.mk (Nat × List Int × List Int × List Int) (fun u => u.1 ≤ C.length ∧ Is u.2.1 t.facts.length (fun f => if f < u.1 then lowF t den w f (a + 1) else lowF t den w f a) ∧ Is u.2.2.1 t.facts.length (fun f => if f < u.1 then highF t den w f (a + 1) else highF t den w f a) ∧ Is u.2.2.2 t.facts.length (fun f => if f < u.1 then nowF t s den w f (a + 1) else nowF t s den w f a))
      (fun u => [(3, .ptr (.cur 24) 0), (5, .ptr (.cur 40) 0), (8, .osl (.cur 400) 1 0 (t.facts.map tS).length), (9, .osl (.cur 432) 1 0 (t.facts.map tS).length), (10, .osl (.cur 464) 1 0 (t.facts.map tS).length), (15, .int a), (94, .acts t.an t.acts), (95, .int (t.acts.map tAct).length), (96, .int a), (103, .ints false C), (104, .int (C.map tI).length), (105, .int u.1)])
      (fun u => stFl out t den n2 w u.2.1 u.2.2.1 u.2.2.2)
      (fun u => C.length - u.1) (0, lo, hi, nw) ⟨Nat.zero_le _, hlo.congr fun f _ => if_neg (Nat.not_lt_zero _), hhi.congr fun f _ => if_neg (Nat.not_lt_zero _), hnw.congr fun f _ => if_neg (Nat.not_lt_zero _)⟩ ⟨rfl, rfl⟩ ?_
    clear hlo hhi hnw
    rintro ⟨j, lo, hi, nw⟩ ⟨hj0, hlo, hhi, hnw⟩
    simp only at hj0 hlo hhi hnw
    refine And.intro (fun h7 => ?_) fun h7 => ?_
    · have hj : j < C.length := lt_of_dec h7
      have hjn : j < t.facts.length := by omega
      have hjl : (j : Int) < (((t.facts.map tS).length : Nat) : Int) := by omega
      have hgl := hlo.getI hjn
      have hgh := hhi.getI hjn
      have hgn := hnw.getI hjn
      have bl := lowF_in (t := t) hd hw (f := j) (n := a) (by omega)
      have bl1 := lowF_in (t := t) hd hw (f := j) (n := a + 1) (by omega)
      have bh := highF_in (t := t) hd hw (f := j) (n := a) (by omega)
      have bh1 := highF_in (t := t) hd hw (f := j) (n := a + 1) (by omega)
      have bn := nowF_in (t := t) (s := s) hd hw (f := j) (n := a) (by omega)
      have bn1 := nowF_in (t := t) (s := s) hd hw (f := j) (n := a + 1) (by omega)
      have sl := lowF_step t den w j a
      have sh := highF_step t den w j a
      have sn := nowF_step t s den w j a
      rw [hCa j, wAt_eq hj] at sl sh sn
      -- a list with the value of j mended
      have mend : ∀ (l : List Int) (g : Nat → Nat → Int) (v : Int), Is l t.facts.length (fun f => if f < j then g f (a + 1) else g f a) → v = g j (a + 1) → Is (l.set j v) t.facts.length (fun f => if f < j + 1 then g f (a + 1) else g f a) := fun l g v h hv => h.set (fun _ => by rw [if_pos (Nat.lt_succ_self j), hv]) fun f _ hf => by
        by_cases hfj : f < j
        · rw [if_pos hfj, if_pos (by omega)]
        · rw [if_neg hfj, if_neg (by omega)]
      have same : ∀ (l : List Int) (g : Nat → Nat → Int), Is l t.facts.length (fun f => if f < j then g f (a + 1) else g f a) → g j (a + 1) = g j a → Is l t.facts.length (fun f => if f < j + 1 then g f (a + 1) else g f a) := fun l g h hv => h.congr fun f _ => by
        by_cases hfj : f < j
        · rw [if_pos hfj, if_pos (by omega)]
        · rw [if_neg hfj]
          by_cases e : f = j
          · subst e; rw [if_pos (Nat.lt_succ_self _), hv]
          · rw [if_neg (by omega)]
      refine And.intro (Int.natCast_nonneg _) (Exists.intro _ (And.intro (get_map hj) ?_))
      generalize C[j] = q at sl sh sn
      generalize hx : wAt w a = x at hwx hgw sl sh sn
      have el0 : (if j < j then lowF t den w j (a + 1) else lowF t den w j a) = lowF t den w j a := if_neg (Nat.lt_irrefl _)
      have eh0 : (if j < j then highF t den w j (a + 1) else highF t den w j a) = highF t den w j a := if_neg (Nat.lt_irrefl _)
      have en0 : (if j < j then nowF t s den w j (a + 1) else nowF t s den w j a) = nowF t s den w j a := if_neg (Nat.lt_irrefl _)
      rw [el0] at hgl; rw [eh0] at hgh; rw [en0] at hgn
      unfold Bnd at bl bl1 bh bh1 bn bn1
      refine And.intro (fun h8 => ?_) fun h8 => ?_
      · have hq : q = 1 := by simpa using h8
        have e1 : nowD q x = x := by unfold nowD; (repeat' split) <;> omega
        have e2 : lowD q x = 0 := by unfold lowD; (repeat' split) <;> omega
        have e3 : highD q x = 0 := by unfold highD; (repeat' split) <;> omega
        rw [e1] at sn
        rw [e2, Int.add_zero] at sl
        rw [e3, Int.add_zero] at sh
        refine And.intro (Int.natCast_nonneg _) (And.intro hjl (Exists.intro _ (And.intro hgn ?_)))
        refine And.intro (Int.natCast_nonneg _) (Exists.intro _ (And.intro hgw ?_))
        refine And.intro (by show (-9223372036854775808 : Int) ≤ (nowF t s den w j a + x); omega) (And.intro (by show (nowF t s den w j a + x) ≤ (9223372036854775807 : Int); omega) ?_)
        refine And.intro (Int.natCast_nonneg _) (And.intro hjl (Exists.intro _ (And.intro hgn (And.intro (Nat.le_refl 1) ?_))))
        refine And.intro (by show (-9223372036854775808 : Int) ≤ (j : Int) + 1; omega) (And.intro (by show (j : Int) + 1 ≤ 9223372036854775807; omega) ?_)
        exact Exists.intro (j + 1, lo, hi, nw.set j (nowF t s den w j a + x)) (And.intro (by show C.length - (j + 1) < C.length - j; omega) (And.intro ⟨hj, same lo (lowF t den w) hlo sl, same hi (highF t den w) hhi sh, mend nw (nowF t s den w) _ hnw (by rw [sn])⟩ (And.intro rfl (stFl3 rfl rfl (setI nw j _)))))
      have hq1 : ¬ q = 1 := by simpa using h8
      refine And.intro (fun h8 => ?_) fun h8 => ?_
      · have hq : q = 3 := by simpa using h8
        have e1 : nowD q x = -x := by unfold nowD; (repeat' split) <;> omega
        have e2 : lowD q x = 0 := by unfold lowD; (repeat' split) <;> omega
        have e3 : highD q x = 0 := by unfold highD; (repeat' split) <;> omega
        rw [e1] at sn
        rw [e2, Int.add_zero] at sl
        rw [e3, Int.add_zero] at sh
        refine And.intro (Int.natCast_nonneg _) (And.intro hjl (Exists.intro _ (And.intro hgn ?_)))
        refine And.intro (Int.natCast_nonneg _) (Exists.intro _ (And.intro hgw ?_))
        refine And.intro (by show (-9223372036854775808 : Int) ≤ (nowF t s den w j a - x); omega) (And.intro (by show (nowF t s den w j a - x) ≤ (9223372036854775807 : Int); omega) ?_)
        refine And.intro (Int.natCast_nonneg _) (And.intro hjl (Exists.intro _ (And.intro hgn (And.intro (Nat.le_refl 1) ?_))))
        refine And.intro (by show (-9223372036854775808 : Int) ≤ (j : Int) + 1; omega) (And.intro (by show (j : Int) + 1 ≤ 9223372036854775807; omega) ?_)
        exact Exists.intro (j + 1, lo, hi, nw.set j (nowF t s den w j a - x)) (And.intro (by show C.length - (j + 1) < C.length - j; omega) (And.intro ⟨hj, same lo (lowF t den w) hlo sl, same hi (highF t den w) hhi sh, mend nw (nowF t s den w) _ hnw (by rw [sn]; rfl)⟩ (And.intro rfl (stFl3 rfl rfl (setI nw j _)))))
      have hq3 : ¬ q = 3 := by simpa using h8
      refine And.intro (fun h8 => ?_) fun h8 => ?_
      · have hq : q = 2 := by simpa using h8
        have e1 : nowD q x = 0 := by unfold nowD; (repeat' split) <;> omega
        have e2 : lowD q x = -x := by unfold lowD; (repeat' split) <;> omega
        have e3 : highD q x = 0 := by unfold highD; (repeat' split) <;> omega
        rw [e1, Int.add_zero] at sn
        rw [e2] at sl
        rw [e3, Int.add_zero] at sh
        refine And.intro (Int.natCast_nonneg _) (And.intro hjl (Exists.intro _ (And.intro hgl ?_)))
        refine And.intro (Int.natCast_nonneg _) (Exists.intro _ (And.intro hgw ?_))
        refine And.intro (by show (-9223372036854775808 : Int) ≤ (lowF t den w j a - x); omega) (And.intro (by show (lowF t den w j a - x) ≤ (9223372036854775807 : Int); omega) ?_)
        refine And.intro (Int.natCast_nonneg _) (And.intro hjl (Exists.intro _ (And.intro hgl (And.intro (Nat.le_refl 1) ?_))))
        refine And.intro (by show (-9223372036854775808 : Int) ≤ (j : Int) + 1; omega) (And.intro (by show (j : Int) + 1 ≤ 9223372036854775807; omega) ?_)
        exact Exists.intro (j + 1, lo.set j (lowF t den w j a - x), hi, nw) (And.intro (by show C.length - (j + 1) < C.length - j; omega) (And.intro ⟨hj, mend lo (lowF t den w) _ hlo (by rw [sl]; rfl), same hi (highF t den w) hhi sh, same nw (nowF t s den w) hnw sn⟩ (And.intro rfl (stFl3 (setI lo j _) rfl rfl))))
      have hq2 : ¬ q = 2 := by simpa using h8
      refine And.intro (fun h8 => ?_) fun h8 => ?_
      · have hq : q = 4 := by simpa using h8
        have e1 : nowD q x = 0 := by unfold nowD; (repeat' split) <;> omega
        have e2 : lowD q x = 0 := by unfold lowD; (repeat' split) <;> omega
        have e3 : highD q x = x := by unfold highD; (repeat' split) <;> omega
        rw [e1, Int.add_zero] at sn
        rw [e2, Int.add_zero] at sl
        rw [e3] at sh
        refine And.intro (Int.natCast_nonneg _) (And.intro hjl (Exists.intro _ (And.intro hgh ?_)))
        refine And.intro (Int.natCast_nonneg _) (Exists.intro _ (And.intro hgw ?_))
        refine And.intro (by show (-9223372036854775808 : Int) ≤ (highF t den w j a + x); omega) (And.intro (by show (highF t den w j a + x) ≤ (9223372036854775807 : Int); omega) ?_)
        refine And.intro (Int.natCast_nonneg _) (And.intro hjl (Exists.intro _ (And.intro hgh (And.intro (Nat.le_refl 1) ?_))))
        refine And.intro (by show (-9223372036854775808 : Int) ≤ (j : Int) + 1; omega) (And.intro (by show (j : Int) + 1 ≤ 9223372036854775807; omega) ?_)
        exact Exists.intro (j + 1, lo, hi.set j (highF t den w j a + x), nw) (And.intro (by show C.length - (j + 1) < C.length - j; omega) (And.intro ⟨hj, same lo (lowF t den w) hlo sl, mend hi (highF t den w) _ hhi (by rw [sh]), same nw (nowF t s den w) hnw sn⟩ (And.intro rfl (stFl3 rfl (setI hi j _) rfl))))
      have hq4 : ¬ q = 4 := by simpa using h8
      have e1 : nowD q x = 0 := by unfold nowD; (repeat' split) <;> omega
      have e2 : lowD q x = 0 := by unfold lowD; (repeat' split) <;> omega
      have e3 : highD q x = 0 := by unfold highD; (repeat' split) <;> omega
      rw [e1, Int.add_zero] at sn
      rw [e2, Int.add_zero] at sl
      rw [e3, Int.add_zero] at sh
      refine And.intro (by show (-9223372036854775808 : Int) ≤ (j : Int) + 1; omega) (And.intro (by show (j : Int) + 1 ≤ 9223372036854775807; omega) ?_)
      exact Exists.intro (j + 1, lo, hi, nw) (And.intro (by show C.length - (j + 1) < C.length - j; omega) (And.intro ⟨hj, same lo (lowF t den w) hlo sl, same hi (highF t den w) hhi sh, same nw (nowF t s den w) hnw sn⟩ (And.intro rfl (stFl3 rfl rfl rfl))))
    have hj : j = t.facts.length := by have := ge_of_dec h7; omega
    refine And.intro (by show (-9223372036854775808 : Int) ≤ (a : Int) + 1; omega) (And.intro (by show (a : Int) + 1 ≤ 9223372036854775807; omega) ?_)
    exact Exists.intro (a + 1, lo, hi, nw) (And.intro (by show t.acts.length - (a + 1) < t.acts.length - a; omega) (And.intro ⟨ha, hlo.congr fun f hf => (if_pos (by omega)).symm, hhi.congr fun f hf => (if_pos (by omega)).symm, hnw.congr fun f hf => (if_pos (by omega)).symm⟩ (And.intro rfl rfl)))
  have ha : a = t.acts.length := by have := ge_of_dec h6; omega
  rw [ha] at hlo hhi hnw
  have hnl : (nw.map tI).length = t.facts.length := by rw [List.length_map, hnw.1]
  refine LoopW.mk Nat (fun i => i ≤ t.facts.length ∧ (List.range i).all (inF t s den w) = true)
    (fun i => [(8, .osl (.cur 400) 1 0 (t.facts.map tS).length), (9, .osl (.cur 432) 1 0 (t.facts.map tS).length), (165, .osl (.cur 464) 1 0 (t.facts.map tS).length), (166, .int (t.facts.map tS).length), (167, .int i)])
    (fun _ => ⟨out, [(400, .row 3 1 (lo.map tI)), (432, .row 3 1 (hi.map tI)), (464, .row 3 1 (nw.map tI))]⟩) (fun i => t.facts.length - i) 0 ⟨Nat.zero_le _, rfl⟩ ⟨rfl, rfl⟩ ?_
  rintro i ⟨hi0, hall⟩
  refine And.intro (fun h7 => ?_) fun h7 => ?_
  · have hi' : i < t.facts.length := by
      have h7' : (i : Int) < (((t.facts.map tS).length : Nat) : Int) := of_decide_eq_true h7
      omega
    have hil : (i : Int) < (((t.facts.map tS).length : Nat) : Int) := by omega
    have hgl := hlo.getI hi'
    have hgh := hhi.getI hi'
    have hgn := hnw.getI hi'
    have bad : inF t s den w i = false → flowB t s den w = false := fun h => by
      rw [hflow, List.all_eq_false]
      exact ⟨i, List.mem_range.2 hi', by rw [h]; decide⟩
    refine And.intro (Int.natCast_nonneg _) (And.intro hil (Exists.intro _ (And.intro hgn ?_)))
    refine And.intro (Int.natCast_nonneg _) (And.intro hil (Exists.intro _ (And.intro hgl ?_)))
    refine And.intro (fun h8 => ?_) fun h8 => ?_
    · exact Exists.intro [] (ret_bool (bad (by rw [inF, h8]; rfl)) rfl)
    refine And.intro (Int.natCast_nonneg _) (And.intro hil (Exists.intro _ (And.intro hgh ?_)))
    refine And.intro (fun h9 => ?_) fun h9 => ?_
    · exact Exists.intro [] (ret_bool (bad (by rw [inF, h9, Bool.or_true]; rfl)) rfl)
    refine And.intro (by show (-9223372036854775808 : Int) ≤ (i : Int) + 1; omega) (And.intro (by show (i : Int) + 1 ≤ 9223372036854775807; omega) ?_)
    refine Exists.intro (i + 1) (And.intro (by show t.facts.length - (i + 1) < t.facts.length - i; omega) (And.intro ⟨hi', ?_⟩ (And.intro rfl rfl)))
    rw [List.range_succ, List.all_append, hall, Bool.true_and, List.all_cons, List.all_nil, Bool.and_true, inF, h8, h9]; rfl
  · have hi : i = t.facts.length := by
      have h7' := of_decide_eq_false h7
      have h7'' : ¬ ((i : Int) < (((t.facts.map tS).length : Nat) : Int)) := h7'
      omega
    rw [hi] at hall
    exact Exists.intro [] (ret_bool (hflow.trans hall) rfl)
end Go.Fw

/- Flows: the reference's check (22). -/
namespace Go.Fw
open Go Go.Proofs
set_option maxRecDepth 10000

def chR (t : Task) (a f : Nat) : Int := match t.acts[a]? with
  | some x => changeI (makesF x.effs f 0) (saysF x.pre f)
  | none => 0
def nowRS (t : Task) (w : List Int) (f n : Nat) : Int := sumZ (fun a => nowD (chR t a f) (wAt w a)) n
def upRS (t : Task) (w : List Int) (f n : Nat) : Int := sumZ (fun a => -lowD (chR t a f) (wAt w a)) n
def dnRS (t : Task) (w : List Int) (f n : Nat) : Int := sumZ (fun a => highD (chR t a f) (wAt w a)) n
def hasI (s : List Int) (f : Nat) (den : Int) : Int := if hasB s f = true then den else 0
def lowRI (g den : Int) : Int := if g = 1 then den else 0
def highRI (g den : Int) : Int := if g = -1 then 0 else den
def inRF (t : Task) (s : List Int) (den : Int) (w : List Int) (f : Nat) : Bool :=
  !(decide (hasI s f den + nowRS t w f t.acts.length < lowRI (saysF t.goal f) den - upRS t w f t.acts.length) || decide (hasI s f den + nowRS t w f t.acts.length > highRI (saysF t.goal f) den + dnRS t w f t.acts.length))
def okT (x : Int) : Bool := decide (0 ≤ x) && decide (x ≤ 1125899906842624)
def flowRB (t : Task) (s : List Int) (den : Int) (w : List Int) : Bool :=
  (decide (1 ≤ den) && decide (den ≤ 1073741824)) && (w.length == t.acts.length) && w.all okT && (List.range t.facts.length).all (inRF t s den w)
theorem nowRS_in {t : Task} {w : List Int} (hw : SmallT w) {f n : Nat} (hn : n ≤ 1000) : -1125899906842624000 ≤ nowRS t w f n ∧ nowRS t w f n ≤ 1125899906842624000 := by
  have := sumZ_in (f := fun a => nowD (chR t a f) (wAt w a)) (b := 1125899906842624) (n := n) fun a _ => nowD_in (wAtT_in hw a)
  rw [nowRS]; omega
theorem upRS_in {t : Task} {w : List Int} (hw : SmallT w) {f n : Nat} (hn : n ≤ 1000) : -1125899906842624000 ≤ upRS t w f n ∧ upRS t w f n ≤ 1125899906842624000 := by
  have := sumZ_in (f := fun a => -lowD (chR t a f) (wAt w a)) (b := 1125899906842624) (n := n) fun a _ => by have := lowD_in (c := chR t a f) (wAtT_in hw a); omega
  rw [upRS]; omega
theorem dnRS_in {t : Task} {w : List Int} (hw : SmallT w) {f n : Nat} (hn : n ≤ 1000) : -1125899906842624000 ≤ dnRS t w f n ∧ dnRS t w f n ≤ 1125899906842624000 := by
  have := sumZ_in (f := fun a => highD (chR t a f) (wAt w a)) (b := 1125899906842624) (n := n) fun a _ => highD_in (wAtT_in hw a)
  rw [dnRS]; omega
theorem chR_eq {t : Task} {a : Nat} (h : a < t.acts.length) (f : Nat) : chR t a f = changeI (makesF t.acts[a].effs f 0) (saysF t.acts[a].pre f) := by
  rw [chR, List.getElem?_eq_getElem h]
def kp22 : Kp := [(4, ([1, 2, 3, 4, 32, 33, 34], [32])), (10, ([1, 2, 3, 4, 44, 45], [32])), (16, ([1, 2, 3, 4, 11, 12, 13, 14, 44, 45, 53, 54, 55], [32]))]
def od22 : Od := [(18, [(0, .tree (.pure 0 (.pure 1 (.pure 3 (.pure 4 (.pure 5 (.last 2 (.last 6 (.pure 7 (.pure 8 .done)) []) [3, 4, 5])))))))])]
set_option maxHeartbeats 4000000 in
theorem f22_spec (t : Task) (n1 : Bool) (s : List Int) (den : Int) (n2 : Bool) (w : List Int) (hN : t.facts.length ≤ 200) (hA : t.acts.length ≤ 1000) (out : List Fr) :
    SpecP Try.prog 22 [.task t, .ints n1 s, .int den, .ints n2 w] out fun r ro => r = .bool (flowRB t s den w) ∧ ro = [] := by
  refine spec_body cx_ok kp22 od22 (fn := Try.f22) (by kernel_rfl) rfl (by kernel_rfl) rfl (by unfold FnOK; kernel_rfl) fun hok => ?_
  refine SpecP.mono (f54_spec den 1 1073741824 _) ?_
  rintro _ _ ⟨rfl, rfl⟩
  refine And.intro (fun h1 => ?_) fun h1 => ?_
  rotate_left
  · refine Exists.intro [] (ret_bool ?_ rfl)
    rw [flowRB, h1]; rfl
  refine And.intro (fun h2 => ?_) fun h2 => ?_
  · refine Exists.intro [] (ret_bool ?_ rfl)
    have h2' : (w.length == t.acts.length) = false := by
      simp at h2; simp; omega
    rw [flowRB, h2']; simp
  have hl : w.length = t.acts.length := by simp at h2; omega
  have hd : 1 ≤ den ∧ den ≤ 1073741824 := by simpa using h1
  have hfl : (t.facts.map tS).length = t.facts.length := List.length_map ..
  have hfl : (t.facts.map tS).length = t.facts.length := List.length_map ..
  refine LoopW.mk Nat (fun i => i ≤ w.length ∧ (w.take i).all okT = true) (fun i => [(1, .ints n1 s), (2, .int den), (3, .ints n2 w), (4, .ptr (.cur 32) 0), (32, .ints n2 w), (33, .int (w.map tI).length), (34, .int i)])
    (fun _ => ⟨out, [(32, .box (cellsTask t))]⟩) (fun i => w.length - i) 0 ⟨Nat.zero_le _, rfl⟩ ⟨rfl, rfl⟩ ?_
  rintro i ⟨hi0, hall⟩
  refine And.intro (fun h3 => ?_) fun h3 => ?_
  · have hi : i < w.length := lt_of_dec h3
    refine And.intro (Int.natCast_nonneg _) (Exists.intro _ (And.intro (get_map hi) ?_))
    refine SpecP.mono (f54_spec w[i] 0 1125899906842624 _) ?_
    rintro _ _ ⟨rfl, rfl⟩
    refine And.intro (fun h4 => ?_) fun h4 => ?_
    · refine And.intro (by show (-9223372036854775808 : Int) ≤ (i : Int) + 1; omega) (And.intro (by show (i : Int) + 1 ≤ 9223372036854775807; omega) ?_)
      exact Exists.intro (i + 1) (And.intro (by show w.length - (i + 1) < w.length - i; omega) (And.intro ⟨hi, all_more hi hall h4⟩ (And.intro rfl rfl)))
    · refine Exists.intro [] (ret_bool ?_ rfl)
      rw [flowRB, all_not (p := okT) hi h4]; simp
  have hall : w.all okT = true := by
    have hi : i = w.length := by have := ge_of_dec h3; omega
    rw [hi, List.take_length] at hall; exact hall
  have hw : SmallT w := fun x hx => by
    have := List.all_eq_true.1 hall x hx
    simpa [okT] using this
  have hflow : flowRB t s den w = (List.range t.facts.length).all (inRF t s den w) := by
    rw [flowRB, hall, decide_eq_true hd.1, decide_eq_true hd.2, hl]; simp
  refine LoopW.mk Nat (fun i => i ≤ t.facts.length ∧ (List.range i).all (inRF t s den w) = true) (fun i => [(1, .ints n1 s), (2, .int den), (3, .ints n2 w), (4, .ptr (.cur 32) 0), (44, .int (t.facts.map tS).length), (45, .int i)])
    (fun _ => ⟨out, [(32, .box (cellsTask t))]⟩) (fun i => t.facts.length - i) 0 ⟨Nat.zero_le _, rfl⟩ ⟨rfl, rfl⟩ ?_
  clear h3 hi0
  rintro f ⟨hf0, hR⟩
  refine And.intro (fun h3 => ?_) fun h3 => ?_
  · have hf : f < t.facts.length := by
      have h7' : (f : Int) < (((t.facts.map tS).length : Nat) : Int) := of_decide_eq_true h3
      omega
    refine SpecP.mono (f55_spec n1 s f _) ?_
    rintro _ _ ⟨rfl, rfl⟩
    apply share
    · intro body
      refine And.intro (fun h4 => ?_) fun h4 => ?_
      · exact LoopW.mk (Nat × Int × Int × Int) (fun u => u.1 ≤ t.acts.length ∧ u.2.1 = hasI s f den + nowRS t w f u.1 ∧ u.2.2.1 = upRS t w f u.1 ∧ u.2.2.2 = dnRS t w f u.1)
          (fun u => [(1, .ints n1 s), (2, .int den), (3, .ints n2 w), (4, .ptr (.cur 32) 0), (11, .int f), (12, .int u.2.1), (13, .int u.2.2.1), (14, .int u.2.2.2), (44, .int (t.facts.map tS).length), (45, .int f), (53, .acts t.an t.acts), (54, .int (t.acts.map tAct).length), (55, .int u.1)])
          (fun _ => ⟨out, [(32, .box (cellsTask t))]⟩) (fun u => t.acts.length - u.1) (0, den, 0, 0) ⟨Nat.zero_le _, by rw [hasI, if_pos h4]; exact (Int.add_zero _).symm, rfl, rfl⟩ ⟨rfl, rfl⟩ body
      · exact LoopW.mk (Nat × Int × Int × Int) (fun u => u.1 ≤ t.acts.length ∧ u.2.1 = hasI s f den + nowRS t w f u.1 ∧ u.2.2.1 = upRS t w f u.1 ∧ u.2.2.2 = dnRS t w f u.1)
          (fun u => [(1, .ints n1 s), (2, .int den), (3, .ints n2 w), (4, .ptr (.cur 32) 0), (11, .int f), (12, .int u.2.1), (13, .int u.2.2.1), (14, .int u.2.2.2), (44, .int (t.facts.map tS).length), (45, .int f), (53, .acts t.an t.acts), (54, .int (t.acts.map tAct).length), (55, .int u.1)])
          (fun _ => ⟨out, [(32, .box (cellsTask t))]⟩) (fun u => t.acts.length - u.1) (0, 0, 0, 0) ⟨Nat.zero_le _, by rw [hasI, if_neg (by rw [h4]; decide)]; rfl, rfl, rfl⟩ ⟨rfl, rfl⟩ body
    rintro ⟨a, x, u, v⟩ ⟨ha0, hx, hu, hv⟩
    simp only at ha0 hx hu hv
    refine And.intro (fun h4 => ?_) fun h4 => ?_
    · have ha : a < t.acts.length := lt_of_dec h4
      refine And.intro (Int.natCast_nonneg _) (Exists.intro _ (And.intro (get_map ha) ?_))
      refine SpecP.mono (f56_spec t.acts[a] f _) ?_
      rintro _ _ ⟨rfl, rfl⟩
      refine And.intro rfl (And.intro rfl (And.intro rfl ?_))
      refine SpecP.mono (f57_spec t.acts[a].pn t.acts[a].pre f _) ?_
      rintro _ _ ⟨rfl, rfl⟩
      have haw : a < w.length := by omega
      have hwx := wAtT_in hw a
      have hgw : (w.map tI)[((a : Nat) : Int).toNat]? = some (tI (wAt w a)) := by rw [Int.toNat_natCast, List.getElem?_map, List.getElem?_eq_getElem haw, wAt_eq haw]; rfl
      have bx := nowRS_in (t := t) hw (f := f) (n := a) (by omega)
      have bu := upRS_in (t := t) hw (f := f) (n := a) (by omega)
      have bv := dnRS_in (t := t) hw (f := f) (n := a) (by omega)
      have bh : 0 ≤ hasI s f den ∧ hasI s f den ≤ 1073741824 := by unfold hasI; split <;> omega
      have sx : nowRS t w f (a + 1) = nowRS t w f a + nowD (chR t a f) (wAt w a) := rfl
      have su : upRS t w f (a + 1) = upRS t w f a + -lowD (chR t a f) (wAt w a) := rfl
      have sv : dnRS t w f (a + 1) = dnRS t w f a + highD (chR t a f) (wAt w a) := rfl
      rw [chR_eq ha] at sx su sv
      have hm := makes_is t.acts[a].effs f 0 (.inl rfl)
      have hp := says_is t.acts[a].pre f
      generalize makesF t.acts[a].effs f 0 = m at hm sx su sv
      generalize saysF t.acts[a].pre f = p at hp sx su sv
      generalize wAt w a = y at hwx hgw sx su sv
      rcases hm with rfl | rfl | rfl <;> rcases hp with rfl | rfl | rfl
      · have sx' : nowRS t w f (a + 1) = nowRS t w f a + 0 := sx
        have su' : upRS t w f (a + 1) = upRS t w f a + 0 := by rw [su]; rfl
        have sv' : dnRS t w f (a + 1) = dnRS t w f a + 0 := sv
        clear sx su sv
        repeat' (first
          | refine And.intro (fun h => ?_) fun h => absurd h (by decide)
          | refine And.intro (fun h => absurd h (by decide)) fun h => ?_
          | fail)
        refine And.intro (by show (-9223372036854775808 : Int) ≤ (a : Int) + 1; omega) (And.intro (by show (a : Int) + 1 ≤ 9223372036854775807; omega) ?_)
        exact Exists.intro (a + 1, x, u, v) (And.intro (by show t.acts.length - (a + 1) < t.acts.length - a; omega) (And.intro ⟨ha, by show x = hasI s f den + nowRS t w f (a + 1); omega, by show u = upRS t w f (a + 1); omega, by show v = dnRS t w f (a + 1); omega⟩ (And.intro rfl rfl)))
      · have sx' : nowRS t w f (a + 1) = nowRS t w f a + 0 := sx
        have su' : upRS t w f (a + 1) = upRS t w f a + 0 := by rw [su]; rfl
        have sv' : dnRS t w f (a + 1) = dnRS t w f a + 0 := sv
        clear sx su sv
        repeat' (first
          | refine And.intro (fun h => ?_) fun h => absurd h (by decide)
          | refine And.intro (fun h => absurd h (by decide)) fun h => ?_
          | fail)
        refine And.intro (by show (-9223372036854775808 : Int) ≤ (a : Int) + 1; omega) (And.intro (by show (a : Int) + 1 ≤ 9223372036854775807; omega) ?_)
        exact Exists.intro (a + 1, x, u, v) (And.intro (by show t.acts.length - (a + 1) < t.acts.length - a; omega) (And.intro ⟨ha, by show x = hasI s f den + nowRS t w f (a + 1); omega, by show u = upRS t w f (a + 1); omega, by show v = dnRS t w f (a + 1); omega⟩ (And.intro rfl rfl)))
      · have sx' : nowRS t w f (a + 1) = nowRS t w f a + 0 := sx
        have su' : upRS t w f (a + 1) = upRS t w f a + 0 := by rw [su]; rfl
        have sv' : dnRS t w f (a + 1) = dnRS t w f a + 0 := sv
        clear sx su sv
        repeat' (first
          | refine And.intro (fun h => ?_) fun h => absurd h (by decide)
          | refine And.intro (fun h => absurd h (by decide)) fun h => ?_
          | fail)
        refine And.intro (by show (-9223372036854775808 : Int) ≤ (a : Int) + 1; omega) (And.intro (by show (a : Int) + 1 ≤ 9223372036854775807; omega) ?_)
        exact Exists.intro (a + 1, x, u, v) (And.intro (by show t.acts.length - (a + 1) < t.acts.length - a; omega) (And.intro ⟨ha, by show x = hasI s f den + nowRS t w f (a + 1); omega, by show u = upRS t w f (a + 1); omega, by show v = dnRS t w f (a + 1); omega⟩ (And.intro rfl rfl)))
      · have sx' : nowRS t w f (a + 1) = nowRS t w f a + 0 := sx
        have su' : upRS t w f (a + 1) = upRS t w f a + y := by rw [su]; exact congrArg (_ + ·) (Int.neg_neg y)
        have sv' : dnRS t w f (a + 1) = dnRS t w f a + 0 := sv
        clear sx su sv
        repeat' (first
          | refine And.intro (fun h => ?_) fun h => absurd h (by decide)
          | refine And.intro (fun h => absurd h (by decide)) fun h => ?_
          | fail)
        refine And.intro (Int.natCast_nonneg _) (Exists.intro _ (And.intro hgw ?_))
        refine And.intro (by show (-9223372036854775808 : Int) ≤ (u + y); omega) (And.intro (by show (u + y) ≤ (9223372036854775807 : Int); omega) ?_)
        refine And.intro (by show (-9223372036854775808 : Int) ≤ (a : Int) + 1; omega) (And.intro (by show (a : Int) + 1 ≤ 9223372036854775807; omega) ?_)
        exact Exists.intro (a + 1, x, u + y, v) (And.intro (by show t.acts.length - (a + 1) < t.acts.length - a; omega) (And.intro ⟨ha, by show x = hasI s f den + nowRS t w f (a + 1); omega, by show u + y = upRS t w f (a + 1); omega, by show v = dnRS t w f (a + 1); omega⟩ (And.intro rfl rfl)))
      · have sx' : nowRS t w f (a + 1) = nowRS t w f a + 0 := sx
        have su' : upRS t w f (a + 1) = upRS t w f a + 0 := by rw [su]; rfl
        have sv' : dnRS t w f (a + 1) = dnRS t w f a + 0 := sv
        clear sx su sv
        repeat' (first
          | refine And.intro (fun h => ?_) fun h => absurd h (by decide)
          | refine And.intro (fun h => absurd h (by decide)) fun h => ?_
          | fail)
        refine And.intro (by show (-9223372036854775808 : Int) ≤ (a : Int) + 1; omega) (And.intro (by show (a : Int) + 1 ≤ 9223372036854775807; omega) ?_)
        exact Exists.intro (a + 1, x, u, v) (And.intro (by show t.acts.length - (a + 1) < t.acts.length - a; omega) (And.intro ⟨ha, by show x = hasI s f den + nowRS t w f (a + 1); omega, by show u = upRS t w f (a + 1); omega, by show v = dnRS t w f (a + 1); omega⟩ (And.intro rfl rfl)))
      · have sx' : nowRS t w f (a + 1) = nowRS t w f a + y := sx
        have su' : upRS t w f (a + 1) = upRS t w f a + 0 := by rw [su]; rfl
        have sv' : dnRS t w f (a + 1) = dnRS t w f a + 0 := sv
        clear sx su sv
        repeat' (first
          | refine And.intro (fun h => ?_) fun h => absurd h (by decide)
          | refine And.intro (fun h => absurd h (by decide)) fun h => ?_
          | fail)
        refine And.intro (Int.natCast_nonneg _) (Exists.intro _ (And.intro hgw ?_))
        refine And.intro (by show (-9223372036854775808 : Int) ≤ (x + y); omega) (And.intro (by show (x + y) ≤ (9223372036854775807 : Int); omega) ?_)
        refine And.intro (by show (-9223372036854775808 : Int) ≤ (a : Int) + 1; omega) (And.intro (by show (a : Int) + 1 ≤ 9223372036854775807; omega) ?_)
        exact Exists.intro (a + 1, x + y, u, v) (And.intro (by show t.acts.length - (a + 1) < t.acts.length - a; omega) (And.intro ⟨ha, by show x + y = hasI s f den + nowRS t w f (a + 1); omega, by show u = upRS t w f (a + 1); omega, by show v = dnRS t w f (a + 1); omega⟩ (And.intro rfl rfl)))
      · have sx' : nowRS t w f (a + 1) = nowRS t w f a + 0 := sx
        have su' : upRS t w f (a + 1) = upRS t w f a + 0 := by rw [su]; rfl
        have sv' : dnRS t w f (a + 1) = dnRS t w f a + y := sv
        clear sx su sv
        repeat' (first
          | refine And.intro (fun h => ?_) fun h => absurd h (by decide)
          | refine And.intro (fun h => absurd h (by decide)) fun h => ?_
          | fail)
        refine And.intro (Int.natCast_nonneg _) (Exists.intro _ (And.intro hgw ?_))
        refine And.intro (by show (-9223372036854775808 : Int) ≤ (v + y); omega) (And.intro (by show (v + y) ≤ (9223372036854775807 : Int); omega) ?_)
        refine And.intro (by show (-9223372036854775808 : Int) ≤ (a : Int) + 1; omega) (And.intro (by show (a : Int) + 1 ≤ 9223372036854775807; omega) ?_)
        exact Exists.intro (a + 1, x, u, v + y) (And.intro (by show t.acts.length - (a + 1) < t.acts.length - a; omega) (And.intro ⟨ha, by show x = hasI s f den + nowRS t w f (a + 1); omega, by show u = upRS t w f (a + 1); omega, by show v + y = dnRS t w f (a + 1); omega⟩ (And.intro rfl rfl)))
      · have sx' : nowRS t w f (a + 1) = nowRS t w f a + -y := sx
        have su' : upRS t w f (a + 1) = upRS t w f a + 0 := by rw [su]; rfl
        have sv' : dnRS t w f (a + 1) = dnRS t w f a + 0 := sv
        clear sx su sv
        repeat' (first
          | refine And.intro (fun h => ?_) fun h => absurd h (by decide)
          | refine And.intro (fun h => absurd h (by decide)) fun h => ?_
          | fail)
        refine And.intro (Int.natCast_nonneg _) (Exists.intro _ (And.intro hgw ?_))
        refine And.intro (by show (-9223372036854775808 : Int) ≤ (x - y); omega) (And.intro (by show (x - y) ≤ (9223372036854775807 : Int); omega) ?_)
        refine And.intro (by show (-9223372036854775808 : Int) ≤ (a : Int) + 1; omega) (And.intro (by show (a : Int) + 1 ≤ 9223372036854775807; omega) ?_)
        exact Exists.intro (a + 1, x - y, u, v) (And.intro (by show t.acts.length - (a + 1) < t.acts.length - a; omega) (And.intro ⟨ha, by show x - y = hasI s f den + nowRS t w f (a + 1); omega, by show u = upRS t w f (a + 1); omega, by show v = dnRS t w f (a + 1); omega⟩ (And.intro rfl rfl)))
      · have sx' : nowRS t w f (a + 1) = nowRS t w f a + 0 := sx
        have su' : upRS t w f (a + 1) = upRS t w f a + 0 := by rw [su]; rfl
        have sv' : dnRS t w f (a + 1) = dnRS t w f a + 0 := sv
        clear sx su sv
        repeat' (first
          | refine And.intro (fun h => ?_) fun h => absurd h (by decide)
          | refine And.intro (fun h => absurd h (by decide)) fun h => ?_
          | fail)
        refine And.intro (by show (-9223372036854775808 : Int) ≤ (a : Int) + 1; omega) (And.intro (by show (a : Int) + 1 ≤ 9223372036854775807; omega) ?_)
        exact Exists.intro (a + 1, x, u, v) (And.intro (by show t.acts.length - (a + 1) < t.acts.length - a; omega) (And.intro ⟨ha, by show x = hasI s f den + nowRS t w f (a + 1); omega, by show u = upRS t w f (a + 1); omega, by show v = dnRS t w f (a + 1); omega⟩ (And.intro rfl rfl)))
    have ha : a = t.acts.length := by have := ge_of_dec h4; omega
    subst ha
    refine SpecP.mono (f57_spec t.gn t.goal f _) ?_
    rintro _ _ ⟨rfl, rfl⟩
    have bx := nowRS_in (t := t) hw (f := f) (n := t.acts.length) hA
    have bu := upRS_in (t := t) hw (f := f) (n := t.acts.length) hA
    have bv := dnRS_in (t := t) hw (f := f) (n := t.acts.length) hA
    have bh : 0 ≤ hasI s f den ∧ hasI s f den ≤ 1073741824 := by unfold hasI; split <;> omega
    have bad : inRF t s den w f = false → flowRB t s den w = false := fun h => by
      rw [hflow, List.all_eq_false]
      exact ⟨f, List.mem_range.2 hf, by rw [h]; decide⟩
    have good : inRF t s den w f = true → (List.range (f + 1)).all (inRF t s den w) = true := fun h => by
      rw [List.range_succ, List.all_append, hR, Bool.true_and, List.all_cons, List.all_nil, Bool.and_true, h]
    have hin : inRF t s den w f = !(decide (x < lowRI (saysF t.goal f) den - u) || decide (x > highRI (saysF t.goal f) den + v)) := by rw [inRF, hx, hu, hv]
    have hg := says_is t.goal f
    generalize saysF t.goal f = g at hg hin
    rcases hg with rfl | rfl | rfl
    · have hin' : inRF t s den w f = !(decide (x < 0 - u) || decide (x > den + v)) := hin
      repeat' (first
        | refine And.intro (fun h => ?_) fun h => absurd h (by decide)
        | refine And.intro (fun h => absurd h (by decide)) fun h => ?_
        | fail)
      refine And.intro (by show (-9223372036854775808 : Int) ≤ 0 - u; omega) (And.intro (by show 0 - u ≤ (9223372036854775807 : Int); omega) ?_)
      refine And.intro (fun h5 => ?_) fun h5 => ?_
      · have h5' : decide (x < 0 - u) = true := h5
        exact Exists.intro [] (ret_bool (bad (by rw [hin', h5']; rfl)) rfl)
      have h5' : decide (x < 0 - u) = false := h5
      refine And.intro (by show (-9223372036854775808 : Int) ≤ den + v; omega) (And.intro (by show den + v ≤ (9223372036854775807 : Int); omega) ?_)
      refine And.intro (fun h6 => ?_) fun h6 => ?_
      · have h6' : decide (x > den + v) = true := h6
        exact Exists.intro [] (ret_bool (bad (by rw [hin', h6', Bool.or_true]; rfl)) rfl)
      have h6' : decide (x > den + v) = false := h6
      refine And.intro (by show (-9223372036854775808 : Int) ≤ (f : Int) + 1; omega) (And.intro (by show (f : Int) + 1 ≤ 9223372036854775807; omega) ?_)
      exact Exists.intro (f + 1) (And.intro (by show t.facts.length - (f + 1) < t.facts.length - f; omega) (And.intro ⟨hf, good (by rw [hin', h5', h6']; rfl)⟩ (And.intro rfl rfl)))
    · have hin' : inRF t s den w f = !(decide (x < den - u) || decide (x > den + v)) := hin
      repeat' (first
        | refine And.intro (fun h => ?_) fun h => absurd h (by decide)
        | refine And.intro (fun h => absurd h (by decide)) fun h => ?_
        | fail)
      refine And.intro (by show (-9223372036854775808 : Int) ≤ den - u; omega) (And.intro (by show den - u ≤ (9223372036854775807 : Int); omega) ?_)
      refine And.intro (fun h5 => ?_) fun h5 => ?_
      · have h5' : decide (x < den - u) = true := h5
        exact Exists.intro [] (ret_bool (bad (by rw [hin', h5']; rfl)) rfl)
      have h5' : decide (x < den - u) = false := h5
      refine And.intro (by show (-9223372036854775808 : Int) ≤ den + v; omega) (And.intro (by show den + v ≤ (9223372036854775807 : Int); omega) ?_)
      refine And.intro (fun h6 => ?_) fun h6 => ?_
      · have h6' : decide (x > den + v) = true := h6
        exact Exists.intro [] (ret_bool (bad (by rw [hin', h6', Bool.or_true]; rfl)) rfl)
      have h6' : decide (x > den + v) = false := h6
      refine And.intro (by show (-9223372036854775808 : Int) ≤ (f : Int) + 1; omega) (And.intro (by show (f : Int) + 1 ≤ 9223372036854775807; omega) ?_)
      exact Exists.intro (f + 1) (And.intro (by show t.facts.length - (f + 1) < t.facts.length - f; omega) (And.intro ⟨hf, good (by rw [hin', h5', h6']; rfl)⟩ (And.intro rfl rfl)))
    · have hin' : inRF t s den w f = !(decide (x < 0 - u) || decide (x > 0 + v)) := hin
      repeat' (first
        | refine And.intro (fun h => ?_) fun h => absurd h (by decide)
        | refine And.intro (fun h => absurd h (by decide)) fun h => ?_
        | fail)
      refine And.intro (by show (-9223372036854775808 : Int) ≤ 0 - u; omega) (And.intro (by show 0 - u ≤ (9223372036854775807 : Int); omega) ?_)
      refine And.intro (fun h5 => ?_) fun h5 => ?_
      · have h5' : decide (x < 0 - u) = true := h5
        exact Exists.intro [] (ret_bool (bad (by rw [hin', h5']; rfl)) rfl)
      have h5' : decide (x < 0 - u) = false := h5
      refine And.intro (by show (-9223372036854775808 : Int) ≤ 0 + v; omega) (And.intro (by show 0 + v ≤ (9223372036854775807 : Int); omega) ?_)
      refine And.intro (fun h6 => ?_) fun h6 => ?_
      · have h6' : decide (x > 0 + v) = true := h6
        exact Exists.intro [] (ret_bool (bad (by rw [hin', h6', Bool.or_true]; rfl)) rfl)
      have h6' : decide (x > 0 + v) = false := h6
      refine And.intro (by show (-9223372036854775808 : Int) ≤ (f : Int) + 1; omega) (And.intro (by show (f : Int) + 1 ≤ 9223372036854775807; omega) ?_)
      exact Exists.intro (f + 1) (And.intro (by show t.facts.length - (f + 1) < t.facts.length - f; omega) (And.intro ⟨hf, good (by rw [hin', h5', h6']; rfl)⟩ (And.intro rfl rfl)))
  · have hf : f = t.facts.length := by
      have h7'' : ¬ ((f : Int) < (((t.facts.map tS).length : Nat) : Int)) := of_decide_eq_false h3
      rw [hfl] at h7''
      omega
    rw [hf] at hR
    exact Exists.intro [] (ret_bool (hflow.trans hR) rfl)
end Go.Fw

/- Flows: the program's check answers as the reference's; IsFlow. -/
namespace Go.Fw
open Go Go.Proofs
set_option maxRecDepth 10000

theorem hasI_eq (s : List Int) (f : Nat) (den : Int) : hasI s f den = nowI s f den := by
  rw [hasI, nowI]
  have : hasB s f = true ↔ (f : Int) ∈ s := by
    rw [hasB, List.any_eq_true]
    exact ⟨fun ⟨x, hx, he⟩ => by rw [beq_iff_eq] at he; exact he ▸ hx, fun h => ⟨_, h, by simp⟩⟩
  by_cases h : (f : Int) ∈ s
  · rw [if_pos (this.2 h), if_pos h]
  · rw [if_neg fun x => h (this.1 x), if_neg h]
theorem ch_eq {t : Task} (h : isB t = true) {f : Nat} (hf : f < t.facts.length) (a : Nat) : chA t a f = chR t a f := by
  have TK := task_ok h
  by_cases ha : a < t.acts.length
  · have hm := List.getElem_mem ha
    rw [chA_eq ha, chR_eq ha, changesL, zip_at (madeL_len ..) (signsL_len ..) hf, made_makes (fun e he => (TK.lit _ hm e he).1) hf, signs_says (isB_pre h hm) hf]
  · rw [chA, chR, List.getElem?_eq_none (by omega)]
theorem sums_eq {t : Task} (h : isB t = true) {w : List Int} {f : Nat} (hf : f < t.facts.length) : ∀ n, nowS t w f n = nowRS t w f n ∧ lowS t w f n = -upRS t w f n ∧ highS t w f n = dnRS t w f n
  | 0 => ⟨rfl, rfl, rfl⟩
  | n + 1 => by
    obtain ⟨h1, h2, h3⟩ := sums_eq h (w := w) hf n
    rw [nowS, nowRS, lowS, upRS, highS, dnRS] at *
    simp only [sumZ]
    rw [h1, h2, h3, ch_eq h hf n]
    exact ⟨rfl, by rw [Int.neg_add, Int.neg_neg], rfl⟩
theorem inF_eq {t : Task} (h : isB t = true) {s : List Int} {den : Int} {w : List Int} {f : Nat} (hf : f < t.facts.length) : inF t s den w f = inRF t s den w f := by
  obtain ⟨h1, h2, h3⟩ := sums_eq h (w := w) hf t.acts.length
  have hg := says_is t.goal f
  have e1 : lowI (saysF t.goal f) den = lowRI (saysF t.goal f) den := rfl
  have e2 : highI (saysF t.goal f) den = highRI (saysF t.goal f) den := by
    rcases hg with e | e | e <;> rw [e] <;> rfl
  rw [inF, inRF, nowF, lowF, highF, signs_says (isB_goal h) hf, h1, h2, h3, hasI_eq, e1, e2, Int.sub_eq_add_neg]
theorem flow_eq {t : Task} (h : isB t = true) (s : List Int) (den : Int) (w : List Int) : flowB t s den w = flowRB t s den w := by
  have e1 : (!w.any badT) = w.all okT := by
    rw [List.not_any_eq_all_not]
    congr 1; funext x; rw [badT, Bool.not_not]; rfl
  have e2 : (List.range t.facts.length).all (inF t s den w) = (List.range t.facts.length).all (inRF t s den w) := by
    rw [Bool.eq_iff_iff, List.all_eq_true, List.all_eq_true]
    exact ⟨fun H x hx => by rw [← inF_eq h (List.mem_range.1 hx)]; exact H x hx, fun H x hx => by rw [inF_eq h (List.mem_range.1 hx)]; exact H x hx⟩
  rw [flowB, flowRB, e1, e2]
theorem f17_spec (t : Task) (n1 : Bool) (s : List Int) (den : Int) (n2 : Bool) (w : List Int) (out : List Fr) :
    SpecP Try.prog 17 [.task t, .ints n1 s, .flow den n2 w] out fun r ro => (r = if fineI t s = 0 then (match plainB t with
      | true => .tup [.bool (flowRB t s den w), .int 0]
      | false => .tup [.bool false, .int 1]) else .tup [.bool false, .int (fineI t s)]) ∧ ro = [] := by
  refine spec_body cx_ok [] [] (fn := Try.f17) (by kernel_rfl) rfl (by kernel_rfl) rfl (by unfold FnOK; kernel_rfl) fun hok => ?_
  refine SpecP.mono (f37_spec t n1 s _) ?_
  rintro _ _ ⟨rfl, rfl⟩
  refine And.intro (fun h1 => ?_) fun h1 => ?_
  · have h1' : ¬ fineI t s = 0 := by simpa using h1
    refine Exists.intro [] (And.intro ?_ rfl)
    rw [if_neg h1']; rfl
  have h1' : fineI t s = 0 := by simpa using h1
  refine SpecP.mono (f38_spec t _) ?_
  rintro _ _ ⟨rfl, rfl⟩
  refine And.intro (fun h2 => ?_) fun h2 => ?_
  rotate_left
  · refine Exists.intro [] (And.intro ?_ rfl)
    rw [if_pos h1', h2]; rfl
  have hB : isB t = true ∧ risingB s t.facts.length = true := by
    unfold fineI at h1'
    split at h1'
    · rename_i hb
      split at h1'
      · rename_i hr; exact ⟨hb, hr⟩
      · exact absurd h1' (by decide)
    · exact absurd h1' (by decide)
  have TK := task_ok hB.1
  refine SpecP.mono (f46_spec t n1 s den n2 w TK.facts TK.acts (rising_in hB.2) TK.goal TK.pre TK.lit _) ?_
  rintro _ _ ⟨rfl, rfl⟩
  refine And.intro (fun h3 => ?_) fun h3 => ?_
  · refine Exists.intro [] (And.intro ?_ rfl)
    rw [if_pos h1', h2, ← flow_eq hB.1, h3]; rfl
  · refine Exists.intro [] (And.intro ?_ rfl)
    rw [if_pos h1', h2, ← flow_eq hB.1, h3]; rfl
end Go.Fw

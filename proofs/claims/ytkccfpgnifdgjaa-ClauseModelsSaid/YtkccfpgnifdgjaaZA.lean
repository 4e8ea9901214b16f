/- Texts that lead to the law, part 1. -/
import Derived.Calls
import Derived.Laws.OwnMore
import Derived.Laws.MakeOwn
import Derived.OneCell
import Derived.Below
import Derived.WalkKit
import Derived.Lib.Bytealg
import Derived.Laws.BytesArg
import Derived.MapKept
import Derived.Lib.SliceRun

/- The value logic, part 0: closed data, keys, objects, and how they stand to the machine's values and memory. -/
namespace Go.Fw
open Go

/-- What a type is, as far as it matters. -/
inductive D where
  | int (k : IntKind) | bool | str | slice (e : Nat) | struct (fs : List (Nat × Nat)) | ptr (e : Nat) | map (k e : Nat) | arr (n e : Nat) | other
  deriving DecidableEq

/-- Closed data: one cell each. -/
inductive T where
  | v (x : Value)
  | sl (nil : Bool) (sz : Nat) (es : List (List T))

/-- The name of an object that the call owns. -/
inductive K where
  | cur (s : Nat)
  | fr (i s : Nat)
  | sub (k : K) (i : Nat)

def K.beq : K → K → Bool
  | .cur a, .cur b => Nat.beq a b
  | .fr i a, .fr j b => if Nat.beq i j then Nat.beq a b else false
  | .sub k i, .sub l j => if Nat.beq i j then K.beq k l else false
  | _, _ => false

theorem K.beq_iff : ∀ {a b : K}, K.beq a b = true ↔ a = b
  | .cur a, .cur b => by simp [K.beq]
  | .fr i a, .fr j b => by
    simp only [K.beq, K.fr.injEq]
    split
    · rename_i h; simp at h; simp [h]
    · rename_i h; simp at h; simp [h]
  | .sub k i, .sub l j => by
    have := @K.beq_iff k l
    simp only [K.beq, K.sub.injEq]
    split
    · rename_i h; simp at h; simp [this, h]
    · rename_i h; simp at h; simp [h]
  | .cur _, .fr _ _ | .cur _, .sub _ _ | .fr _ _, .cur _ | .fr _ _, .sub _ _ | .sub _ _, .cur _ | .sub _ _, .fr _ _ => by simp [K.beq]

instance : DecidableEq K := fun a b => if h : K.beq a b = true then .isTrue (K.beq_iff.1 h) else .isFalse fun e => h (K.beq_iff.2 e)

/-- What is laid about a value: the type of an interface value; the function of a method value. -/
inductive IT where
  | ty (t : Nat)
  | bd (f : Nat)
instance : Coe Nat IT := ⟨.ty⟩
instance (n : Nat) : OfNat IT n := ⟨.ty n⟩
def itV : IT → Value → Value
  | .ty t, v => .iface t v
  | .bd f, v => .func (.func f) #[v] #[]

/-- What a slot holds. -/
inductive LV where
  | bad
  | t (x : T)
  | osl (k : K) (sz off len : Nat)
  | ptr (k : K) (c : Nat)
  | pel (k : K) (sz i j : Nat)
  | ipt (cs : List T)
  | fn (f : Nat) (cap : List (K × Nat))
  | mpr (k : K)
  | ifc (t : IT) (x : LV)
  | agg (cs : List LV)
  | tup (vs : List LV)

/-- A row of a row of rows: none; one of the object's own; one that is away. -/
inductive GR where
  | nil
  | row (es : List (List T))
  | out

/-- Where the headers of a row of rows stand: in a row of elements of this type, or in a map with these keys. -/
inductive GO where
  | sl (e : Nat)
  | mp (kd : D) (ks : List Value)
instance : Coe Nat GO := ⟨.sl⟩
instance (n : Nat) : OfNat GO n := ⟨.sl n⟩

/-- An object: a row of elements, a variable, a row of rows. -/
inductive Ob where
  | row (e sz : Nat) (es : List (List T))
  | box (cs : List LV)
  | grid (eo : GO) (e sz : Nat) (rs : List GR)
  | mp (kd : D) (kv : List (Value × T))
  | mit (m : K) (left : List (Value × T))

def GR.map (f : List (List T) → Ob) : GR → Option Ob
  | .row es => some (f es)
  | _ => none

abbrev Fr := List (Nat × Ob)
structure St where
  out : List Fr
  cur : Fr

/-- A key, a value, an object, as they are named n frames further in. -/
def liftK (n : Nat) : K → K
  | .cur s => match n with
    | 0 => .cur s
    | m + 1 => .fr m s
  | .fr i s => .fr (i + n) s
  | .sub k i => .sub (liftK n k) i
def mapC (g : K → K) : List (K × Nat) → List (K × Nat)
  | [] => []
  | p :: r => (g p.1, p.2) :: mapC g r
def mapV (g : K → K) : LV → LV
  | .bad => .bad
  | .t x => .t x
  | .osl k a b c => .osl (g k) a b c
  | .ptr k c => .ptr (g k) c
  | .pel k a b c => .pel (g k) a b c
  | .ipt cs => .ipt cs
  | .fn f cap => .fn f (mapC g cap)
  | .mpr k => .mpr (g k)
  | .ifc t x => .ifc t (mapV g x)
  | .agg cs => .agg (mapL g cs)
  | .tup cs => .tup (mapL g cs)
where mapL (g : K → K) : List LV → List LV
  | [] => []
  | x :: r => mapV g x :: mapL g r
def mapO (g : K → K) : Ob → Ob
  | .box cs => .box (mapV.mapL g cs)
  | .mit m l => .mit (g m) l
  | o => o
def liftV (n : Nat) (x : LV) : LV := mapV (liftK n) x
def liftL (n : Nat) (xs : List LV) : List LV := mapV.mapL (liftK n) xs
def liftO (n : Nat) (o : Ob) : Ob := mapO (liftK n) o

def look {α : Type} : List (Nat × α) → Nat → Option α
  | [], _ => none
  | (m, x) :: r, n => match Nat.beq m n with
    | true => some x
    | false => look r n

def St.get (st : St) : K → Option Ob
  | .cur s => look st.cur s
  | .fr i s => match st.out[i]? with
    | some fr => match look fr s with
      | some o => some (liftO (i + 1) o)
      | none => none
    | none => none
  | .sub k i => match st.get k with
    | some (.grid _ e sz rs) => match rs[i]? with
      | some (.row es) => some (.row e sz es)
      | _ => none
    | _ => none

/-! ### Closed data and memory -/
section
variable (RO : Nat → Prop) (w : World)
inductive VT : T → Value → Prop
  | v (x : Value) (h : x.oneCell' = true) : VT (.v x) x
  | nil (sz : Nat) : VT (.sl true sz []) (.slice none 0 0)
  | emp (sz : Nat) (a : Addr) (c : Nat) (hc : c ≤ maxLen) : VT (.sl false sz []) (.slice (some a) 0 c)
  | sl (sz : Nat) (es : List (List T)) (b off c : Nat) (u : Nat → Nat → Value) (hb : (∃ (i : Nat) (e : List T) (j : Nat) (x : T), es[i]? = some e ∧ e[j]? = some x) → RO b) (hc : es.length ≤ c) (hm : c ≤ maxLen)
      (hsz : ∀ (i : Nat) (e : List T), es[i]? = some e → e.length = sz)
      (hcell : ∀ (i : Nat) (e : List T) (j : Nat) (x : T), es[i]? = some e → e[j]? = some x → w.cell? ⟨b, off + (i * sz + j), none⟩ = some (u i j))
      (hv : ∀ (i : Nat) (e : List T) (j : Nat) (x : T), es[i]? = some e → e[j]? = some x → VT x (u i j)) :
      VT (.sl false sz es) (.slice (some ⟨b, off, none⟩) es.length c)
end

theorem VT.one {RO : Nat → Prop} {w : World} {x : T} {v : Value} (h : VT RO w x v) : v.oneCell' = true := by
  cases h with
  | v x h => exact h
  | _ => rfl

theorem VT.mono {RO RO' : Nat → Prop} {w w' : World} (hro : ∀ b, RO b → RO' b) (hw : ∀ b, RO b → w'.heap[b]? = w.heap[b]?) {x : T} {v : Value} (h : VT RO w x v) : VT RO' w' x v := by
  induction h with
  | v x h => exact .v x h
  | nil sz => exact .nil sz
  | emp sz a c hc => exact .emp sz a c hc
  | sl sz es b off c u hb hc hm hsz hcell _ ih =>
    exact .sl sz es b off c u (fun h => hro b (hb h)) hc hm hsz (fun i e j x h1 h2 => (World.cell?_of_block (hw b (hb ⟨i, e, j, x, h1, h2⟩))).trans (hcell i e j x h1 h2)) ih

/-- The cells of a row of elements. -/
def Flat (RO : Nat → Prop) (w : World) (sz : Nat) (es : List (List T)) (us : List Value) : Prop :=
  us.length = es.length * sz ∧ ∀ (i : Nat) (e : List T), es[i]? = some e → e.length = sz ∧ ∀ (j : Nat) (x : T), e[j]? = some x → ∃ u, us[i * sz + j]? = some u ∧ VT RO w x u

theorem Flat.mono {RO RO' : Nat → Prop} {w w' : World} (hro : ∀ b, RO b → RO' b) (hw : ∀ b, RO b → w'.heap[b]? = w.heap[b]?) {sz : Nat} {es : List (List T)} {us : List Value}
    (h : Flat RO w sz es us) : Flat RO' w' sz es us :=
  ⟨h.1, fun i e hi => ⟨(h.2 i e hi).1, fun j x hj => let ⟨u, h1, h2⟩ := (h.2 i e hi).2 j x hj; ⟨u, h1, h2.mono hro hw⟩⟩⟩

/-! ### Values -/
section
variable (β : K → Nat) (RO : Nat → Prop) (w : World)
inductive VL : LV → Value → Prop
  | bad (x : Value) : VL .bad x
  | t (x : T) (v : Value) (h : VT RO w x v) : VL (.t x) v
  | osl (k : K) (sz off len cap e n : Nat) (h : len ≤ cap) (hs : w.shape? (β k) = some (e, n)) (hn : n = (off + cap) * sz) (hm : off + cap ≤ maxLen) :
      VL (.osl k sz off len) (.slice (some ⟨β k, off * sz, none⟩) len cap)
  | ptr (k : K) (c : Nat) : VL (.ptr k c) (.pointer (some ⟨β k, c, none⟩))
  | pel (k : K) (sz i j : Nat) : VL (.pel k sz i j) (.pointer (some ⟨β k, i * sz + j, none⟩))
  | ipt (cs : List T) (b off : Nat) (u : Nat → Value) (hb : RO b) (hcell : ∀ (j : Nat) (x : T), cs[j]? = some x → w.cell? ⟨b, off + j, none⟩ = some (u j))
      (hv : ∀ (j : Nat) (x : T), cs[j]? = some x → VT RO w x (u j)) : VL (.ipt cs) (.pointer (some ⟨b, off, none⟩))
  | fn (f : Nat) (cap : List (K × Nat)) : VL (.fn f cap) (.func (.func f) #[] (cap.map fun p => Value.pointer (some ⟨β p.1, p.2, none⟩)).toArray)
  | mpr (k : K) : VL (.mpr k) (.map (some (β k)))
  | ifc (t : IT) (x : LV) (v : Value) (h : VL x v) : VL (.ifc t x) (itV t v)
  | agg (cs : List LV) (vs : List Value) (hl : cs.length = vs.length) (h : ∀ (i : Nat) (x : LV) (v : Value), cs[i]? = some x → vs[i]? = some v → VL x v) (h1 : ∀ v ∈ vs, v.oneCell' = true) :
      VL (.agg cs) (.agg vs.toArray)
  | tup (cs : List LV) (vs : List Value) (hl : cs.length = vs.length) (h : ∀ (i : Nat) (x : LV) (v : Value), cs[i]? = some x → vs[i]? = some v → VL x v) :
      VL (.tup cs) (.tuple vs.toArray)
end

/-- Does a value name an object with this root? -/
def K.under (s : K) : K → Bool
  | .sub k i => K.beq s (.sub k i) || K.under s k
  | k => K.beq s k
def LV.has (s : K) : LV → Bool
  | .bad | .t _ | .ipt _ => false
  | .osl k _ _ _ | .ptr k _ | .pel k _ _ _ | .mpr k => K.under s k
  | .fn _ cap => cap.any fun p => K.under s p.1
  | .ifc _ x => LV.has s x
  | .agg cs => hasL s cs
  | .tup cs => hasL s cs
where hasL (s : K) : List LV → Bool
  | [] => false
  | x :: r => LV.has s x || hasL s r

theorem hasL_mem {s : K} : ∀ {cs : List LV}, LV.has.hasL s cs = false → ∀ x ∈ cs, x.has s = false
  | [], _, x, hx => by cases hx
  | y :: r, h, x, hx => by
    simp only [LV.has.hasL, Bool.or_eq_false_iff] at h
    rcases List.mem_cons.1 hx with rfl | hx
    · exact h.1
    · exact hasL_mem h.2 x hx

theorem K.under_self (k : K) : K.under k k = true := by cases k <;> simp [K.under, K.beq_iff]
theorem K.under_trans {a b : K} (h : K.under a b = true) : ∀ {c : K}, K.under b c = true → K.under a c = true
  | .sub k i, h2 => by
    simp only [K.under, Bool.or_eq_true, K.beq_iff] at h2
    rcases h2 with rfl | h2
    · exact h
    · simp only [K.under, Bool.or_eq_true]; exact .inr (K.under_trans h h2)
  | .cur s, h2 => by simp only [K.under, K.beq_iff] at h2; subst h2; exact h
  | .fr i s, h2 => by simp only [K.under, K.beq_iff] at h2; subst h2; exact h
mutual
theorem LV.has_trans {a b : K} (h : K.under a b = true) : ∀ {x : LV}, LV.has b x = true → LV.has a x = true
  | .bad, h2 | .t _, h2 | .ipt _, h2 => by simp [LV.has] at h2
  | .osl _ _ _ _, h2 | .ptr _ _, h2 | .pel _ _ _ _, h2 | .mpr _, h2 => by simp only [LV.has] at *; exact K.under_trans h h2
  | .fn _ cap, h2 => by
    simp only [LV.has, List.any_eq_true] at *
    obtain ⟨p, hp, h2⟩ := h2
    exact ⟨p, hp, K.under_trans h h2⟩
  | .ifc _ _, h2 => by simp only [LV.has] at *; exact LV.has_trans h h2
  | .agg cs, h2 | .tup cs, h2 => by simp only [LV.has] at *; exact hasL_trans h h2
theorem hasL_trans {a b : K} (h : K.under a b = true) : ∀ {cs : List LV}, LV.has.hasL b cs = true → LV.has.hasL a cs = true
  | [], h2 => by simp [LV.has.hasL] at h2
  | x :: r, h2 => by
    simp only [LV.has.hasL, Bool.or_eq_true] at *
    exact h2.imp (LV.has_trans h) (hasL_trans h)
end

/-- A value stands as it stood: the objects that it names lie where they lay. -/
theorem VL.mono {β β' : K → Nat} {RO RO' : Nat → Prop} {w w' : World} (hro : ∀ b, RO b → RO' b) (hw : ∀ b, RO b → w'.heap[b]? = w.heap[b]?)
    {x : LV} {v : Value} (h : VL β RO w x v) (S : K → Prop) (hS : ∀ k, S k → β' k = β k ∧ ∀ r, w.shape? (β k) = some r → w'.shape? (β k) = some r)
    (hx : ∀ k, LV.has k x = true → S k) : VL β' RO' w' x v := by
  have self : ∀ k : K, K.under k k = true := fun k => by cases k <;> simp [K.under, K.beq_iff]
  induction h with
  | bad x => exact .bad x
  | t x v h => exact .t x v (h.mono hro hw)
  | osl k sz off len cap e n h hs hn hm =>
    obtain ⟨e1, e2⟩ := hS k (hx k (self k))
    rw [← e1]; exact .osl k sz off len cap e n h (by rw [e1]; exact e2 _ hs) hn hm
  | ptr k c => obtain ⟨e1, _⟩ := hS k (hx k (self k)); rw [← e1]; exact .ptr k c
  | pel k sz i j => obtain ⟨e1, _⟩ := hS k (hx k (self k)); rw [← e1]; exact .pel k sz i j
  | ipt cs b off u hb hcell hv => exact .ipt cs b off u (hro b hb) (fun j x hj => (World.cell?_of_block (hw b hb)).trans (hcell j x hj)) fun j x hj => (hv j x hj).mono hro hw
  | fn f cap =>
    have : (cap.map fun p => Value.pointer (some ⟨β p.1, p.2, none⟩)) = cap.map fun p => Value.pointer (some ⟨β' p.1, p.2, none⟩) := by
      refine List.map_congr_left fun p hp => ?_
      rw [(hS p.1 (hx p.1 (List.any_eq_true.2 ⟨p, hp, self p.1⟩))).1]
    rw [this]; exact .fn f cap
  | mpr k => obtain ⟨e1, _⟩ := hS k (hx k (self k)); rw [← e1]; exact .mpr k
  | ifc t x v _ ih => exact .ifc t x v (ih hx)
  | agg cs vs hl _ h1 ih =>
    refine .agg cs vs hl (fun i x v hi hv => ih i x v hi hv fun k hk => hx k ?_) h1
    simp only [LV.has]
    cases hc : LV.has.hasL k cs with
    | true => rfl
    | false => rw [hasL_mem hc x (List.mem_of_getElem? hi)] at hk; cases hk
  | tup cs vs hl _ ih =>
    refine .tup cs vs hl fun i x v hi hv => ih i x v hi hv fun k hk => hx k ?_
    simp only [LV.has]
    cases hc : LV.has.hasL k cs with
    | true => rfl
    | false => rw [hasL_mem hc x (List.mem_of_getElem? hi)] at hk; cases hk

end Go.Fw

/- The value logic, part 1: what is known of types; the state; the operations that only read, and that they are right. -/
namespace Go.Fw
open Go

/-! ### Types -/
def descOf : TypeDesc → D
  | .int k => .int k | .bool => .bool | .string => .str | .slice e => .slice e
  | .struct fs => .struct (fs.toList.map fun f => (f.offset, f.type))
  | .pointer e => .ptr e | .map k e => .map k e | .array n e => .arr n e | _ => .other

structure TI where
  d : D
  size : Nat
  bytes : Nat
  zero : List Value

def D.agg : D → Bool
  | .struct _ | .arr _ _ => true
  | _ => false
def isAggV : Value → Bool
  | .agg _ => true
  | _ => false

structure TyOK (P : Program) (t : Nat) (i : TI) : Prop where
  d : (P.underlying t).map descOf = some i.d
  inf : (P.info? t).map (fun j => (j.size, j.bytes, j.zero.map (·.cells.toList))) = some (i.size, i.bytes, some i.zero)
  na : ((P.info? t).bind fun j => j.zero.map isAggV) = some i.d.agg
  one : (i.zero.all (·.oneCell') && Nat.beq i.zero.length i.size) = true

def TysOK (P : Program) : List (Nat × TI) → Prop
  | [] => True
  | p :: r => TyOK P p.1 p.2 ∧ TysOK P r

theorem TysOK.look {P : Program} : ∀ {l : List (Nat × TI)}, TysOK P l → ∀ {t i}, look l t = some i → TyOK P t i
  | [], _, t, i, h => by simp [Fw.look] at h
  | (m, x) :: r, hl, t, i, h => by
    simp only [Fw.look] at h
    split at h
    · rename_i hm
      simp at hm h
      subst hm; subst h; exact hl.1
    · exact TysOK.look hl.2 h

/-- What is told of the program: its types; struct types whose '==' is that of their cells. -/
structure Ctx where
  tys : List (Nat × TI)
  eqs : List (Nat × List D)
  wrap : Bool := false
  exts : List (Nat × Nat) := []
  frz : List (Nat × Nat) := []
  inl : List (Nat × Nat) := []
  srt : List (Nat × Nat) := []
  slz : Bool := false
  num : Bool := false
  grd : List (Nat × Nat) := []
  exb : List (Nat × Nat) := []
  exa : Bool := false

def Ctx.ty (C : Ctx) (t : Nat) : Option TI := look C.tys t

/-- Two cells are equal: whole numbers, bools, strings. -/
def eqV : D → Value → Value → Option Bool
  | .int _, .int k a, .int k' b => if k = k' then some (a == b) else none
  | .bool, .bool a, .bool b => some (a == b)
  | .str, .string a, .string b => some (a.toList == b.toList)
  | _, _, _ => none
def eqVs : List D → List Value → List Value → Option Bool
  | [], [], [] => some true
  | d :: ds, x :: xs, y :: ys => match eqV d x y, eqVs ds xs ys with
    | some a, some b => some (a && b)
    | _, _ => none
  | _, _, _ => none

/-- The function sorts a row of numbers where it lies. -/
def SortOK (P : Program) (f : Nat) : Prop :=
  ((P.funcs[f]?).any (fun fn => fn.body.isSome && fn.name != "runtime.NumGoroutine") = true) ∧
  (∀ w : World, Calls P f #[.slice none 0 0] w fun e w' => e = .returned undef ∧ w'.os = w.os ∧ w'.tape = w.tape ∧ w'.output = w.output ∧ w.heap.size ≤ w'.heap.size ∧ ∀ b, b < w.heap.size → w'.heap[b]? = w.heap[b]?) ∧
  ∀ (w : World) (g cap ty : Nat) (zs : List Int) (cur : Array Value), w.heap[g]? = some (.cells cur ty (0, 0)) → cur.toList.take zs.length = zs.map (Value.int .i64) → zs.length ≤ 1000000000000 →
    Calls P f #[.slice (some ⟨g, 0, none⟩) zs.length cap] w fun e w' => e = .returned undef ∧ w'.os = w.os ∧ w'.tape = w.tape ∧ w'.output = w.output ∧ w.heap.size ≤ w'.heap.size ∧ (∀ b, b < w.heap.size → b ≠ g → w'.heap[b]? = w.heap[b]?) ∧
      ∃ cur' : Array Value, w'.heap[g]? = some (.cells cur' ty (0, 0)) ∧ cur'.size = cur.size ∧ cur'.toList.take zs.length = (zs.mergeSort fun x y => decide (x ≤ y)).map (Value.int .i64)

structure Ctx.OK (C : Ctx) (P : Program) : Prop where
  mixed : P.follows .mixedOrders = true
  tys : TysOK P C.tys
  eqs : ∀ t ds, look C.eqs t = some ds → P.eqGuardType P.depth t = false ∧
    ∀ (w : World) (xs ys : List Value) (r : Bool), eqVs ds xs ys = some r → (Op.equalIn 10000 t (.agg xs.toArray) (.agg ys.toArray)).run P w = .ok r w
  exts : ∀ f k, look C.exts f = some k → ∀ (s : ByteArray) (c : Int) (w : World), (callFunc f #[.string s, .int .u8 c]).run P w = .ok (.value (.int .i64 (Lib.indexByte s.data.toList c.toNat.toUInt8))) w
  srt : ∀ f k, look C.srt f = some k → SortOK P f

section
variable {C : Ctx} {P : Program} (hC : C.OK P)
include hC
theorem Ctx.OK.ty {t : Nat} {i : TI} (h : C.ty t = some i) : TyOK P t i := hC.tys.look h
omit hC in
theorem TyOK.underlying {t : Nat} {i : TI} (h : TyOK P t i) : ∃ d, P.underlying t = some d ∧ descOf d = i.d := by
  have := h.d
  cases hu : P.underlying t with
  | none => simp [hu] at this
  | some d => exact ⟨d, rfl, by simpa [hu] using this⟩
omit hC in
theorem TyOK.info {t : Nat} {i : TI} (h : TyOK P t i) : ∃ j z, P.info? t = some j ∧ j.size = i.size ∧ j.bytes = i.bytes ∧ j.zero = some z ∧ z.cells.toList = i.zero := by
  have := h.inf
  cases hu : P.info? t with
  | none => simp [hu] at this
  | some j =>
    simp only [hu, Option.map_some, Option.some.injEq, Prod.mk.injEq] at this
    obtain ⟨h1, h2, h3⟩ := this
    cases hz : j.zero with
    | none => simp [hz] at h3
    | some z => exact ⟨j, z, rfl, h1, h2, hz, by simpa [hz] using h3⟩
end

/-! ### The state -/
structure Ent where
  w0 : World
  RO0 : Nat → Prop
  Wr : Nat → Prop
  β0 : K → Nat
  mv : K → Prop
  fz : Bool
  gh : Nat → Option Value := fun _ => none
  dfs : List Deferred := []

def K.isFr : K → Bool
  | .fr _ _ => true
  | .sub k _ => K.isFr k
  | .cur _ => false

def Ob.has (s : K) : Ob → Bool
  | .box cs => LV.has.hasL s cs
  | .mit m _ => K.under s m
  | _ => false

/-- Is it a key of this kind? -/
def keyOK : D → Value → Bool
  | .int k, .int k' _ => k == k'
  | .str, .string _ => true
  | .bool, .bool _ => true
  | _, _ => false

/-- Can it be a key? -/
def keyB : Value → Bool
  | .int _ _ | .string _ | .bool _ => true
  | _ => false
/-- An iterator over a map that nobody writes any more: the entry that has come, those that have still to come. -/
def MitR (RO : Nat → Prop) (w : World) (ents : Array MapEntry) (clock : Nat) (seen : Array Nat) (l : List (Value × T)) : Prop :=
  (∀ m ∈ ents.toList, m.born < clock) ∧ ents.toList.Pairwise (fun m n => m.born < n.born) ∧ ∃ c rest, l = c :: rest ∧ (ents.toList.filter fun e => !seen.contains e.born).length = rest.length ∧
    (∀ (i : Nat) (p : Value × T) (e : MapEntry), rest[i]? = some p → (ents.toList.filter fun e => !seen.contains e.born)[i]? = some e → e.key = p.1 ∧ p.1.oneCell' = true ∧ VT RO w p.2 e.val) ∧
    (keyB c.1 = true → ∃ stamp e, seen.back? = some stamp ∧ ents.find? (fun x => x.born == stamp) = some e ∧ e.key = c.1 ∧ c.1.oneCell' = true ∧ VT RO w c.2 e.val)
theorem MitR.mono {RO RO' : Nat → Prop} {w w' : World} (hro : ∀ b, RO b → RO' b) (hw : ∀ b, RO b → w'.heap[b]? = w.heap[b]?) {ents : Array MapEntry} {clock : Nat} {seen : Array Nat} {l : List (Value × T)} (h : MitR RO w ents clock seen l) : MitR RO' w' ents clock seen l := by
  obtain ⟨h1, h2, c, rest, h3, h4, h5, h6⟩ := h
  exact ⟨h1, h2, c, rest, h3, h4, fun i p e hp he => let ⟨g1, g2, g3⟩ := h5 i p e hp he; ⟨g1, g2, g3.mono hro hw⟩, fun hk => let ⟨st, e, g1, g2, g3, g4, g5⟩ := h6 hk; ⟨st, e, g1, g2, g3, g4, g5.mono hro hw⟩⟩

def ObOK (β : K → Nat) (RO : Nat → Prop) (w : World) (k : K) : Ob → Prop
  | .row e sz es => ∃ us cap, w.ownsRow 0 e sz (.slice (some ⟨β k, 0, none⟩) es.length cap) es.length us ∧ Flat RO w sz es us
  | .box cs => ∃ (vs : List Value) (ety : Nat), w.heap[β k]? = some (.cells vs.toArray ety (0, 0)) ∧ cs.length = vs.length ∧ (∀ (i : Nat) (x : LV) (v : Value), cs[i]? = some x → vs[i]? = some v → VL β RO w x v) ∧
      ∀ v ∈ vs, v.oneCell' = true
  | .mp kd kv => ∃ ents clock, w.heap[β k]? = some (.map ents clock) ∧ ents.size = kv.length ∧ (∀ p ∈ kv, keyOK kd p.1 = true) ∧
      (∀ (i : Nat) (p : Value × T) (m : MapEntry), kv[i]? = some p → ents[i]? = some m → m.key = p.1 ∧ VT RO w p.2 m.val) ∧
      (∀ (i j : Nat) (m n : MapEntry), ents[i]? = some m → ents[j]? = some n → i < j → m.born < n.born) ∧ (∀ m ∈ ents, m.born < clock)
  | .mit m left => ∃ seen ents clock, w.heap[β k]? = some (.mapIter (some (β m)) clock seen clock) ∧ w.heap[β m]? = some (.map ents clock) ∧ RO (β m) ∧ MitR RO w ents clock seen left
  | .grid (.mp kd ks) _ sz rs => ∃ ents clock, w.heap[β k]? = some (.map ents clock) ∧ ents.size = rs.length ∧ ks.length = rs.length ∧ (∀ p ∈ ks, keyOK kd p = true) ∧
      (∀ (i : Nat) (p : Value) (m : MapEntry), ks[i]? = some p → ents[i]? = some m → m.key = p) ∧
      (∀ (i : Nat) (r : GR) (m : MapEntry), rs[i]? = some r → ents[i]? = some m → match r with
        | .nil => m.val = .slice none 0 0
        | .row es => VL β RO w (.osl (.sub k i) sz 0 es.length) m.val
        | .out => True) ∧
      (∀ (i j : Nat) (m n : MapEntry), ents[i]? = some m → ents[j]? = some n → i < j → m.born < n.born) ∧ (∀ m ∈ ents, m.born < clock)
  | .grid (.sl eo) _ sz rs => ∃ us cap, w.ownsRow 0 eo 1 (.slice (some ⟨β k, 0, none⟩) rs.length cap) rs.length us ∧
      ∀ (i : Nat) (r : GR) (u : Value), rs[i]? = some r → us[i]? = some u → match r with
        | .nil => u = .slice none 0 0
        | .row es => VL β RO w (.osl (.sub k i) sz 0 es.length) u
        | .out => True

/-- May the object be written? -/
def Ent.can (E : Ent) (k : K) : Prop := k.isFr = true → E.fz = false

structure WR (E : Ent) (β : K → Nat) (RO : Nat → Prop) (st : St) (w : World) : Prop where
  os : w.os = E.w0.os
  tape : w.tape = E.w0.tape
  output : w.output = E.w0.output
  size : E.w0.heap.size ≤ w.heap.size
  keep : ∀ b, b < E.w0.heap.size → ¬ E.Wr b → w.heap[b]? = E.w0.heap[b]?
  roLt : ∀ b, RO b → b < w.heap.size
  ro0 : ∀ b, E.RO0 b → RO b
  roNew : ∀ b, RO b → E.RO0 b ∨ E.w0.heap.size ≤ b ∨ E.Wr b
  obj : ∀ k o, st.get k = some o → ObOK β RO w k o
  objNew : ∀ k o, st.get k = some o → E.can k → E.Wr (β k) ∨ E.w0.heap.size ≤ β k
  inj : ∀ k k' o o', st.get k = some o → st.get k' = some o' → E.can k → E.can k' → β k = β k' → k = k'
  sep : ∀ k o, st.get k = some o → E.can k → ¬ RO (β k)
  fzRO : ∀ k o, st.get k = some o → ¬ E.can k → RO (β k)
  stay : ∀ k, k.isFr = true → ¬ E.mv k → β k = E.β0 k

abbrev Env := List (Nat × LV)

/-- What a slot holds; from a million on: values of another frame. -/
def tmpAt (E : Ent) (a : Act) (n : Nat) : Option Value := match Nat.blt n 1000000 with
  | true => a.tmps[n]?
  | false => E.gh n
theorem tmpAt_lt {E : Ent} {a : Act} {n : Nat} (h : n < 1000000) : tmpAt E a n = a.tmps[n]? := by
  unfold tmpAt; rw [show Nat.blt n 1000000 = true by rw [Nat.blt_eq]; exact h]

structure SR (E : Ent) (N : Nat) (β : K → Nat) (RO : Nat → Prop) (env : Env) (st : St) (a : Act) (w : World) : Prop where
  wr : WR E β RO st w
  size : a.tmps.size = N ∧ N ≤ 1000000
  defers : a.defers = E.dfs
  env : ∀ n x, look env n = some x → ∃ v, tmpAt E a n = some v ∧ VL β RO w x v

/-! ### Reading -/
def ofV : Value → T
  | .slice none 0 0 => .sl true 0 []
  | x => .v x
theorem VT.ofV {RO : Nat → Prop} {w : World} (x : Value) (h : x.oneCell' = true) : VT RO w (ofV x) x := by
  unfold Fw.ofV
  split
  · exact .nil 0
  · exact .v x h

def opd (env : Env) : Operand → LV
  | .tmp t => match Nat.blt t 1000000 with
    | true => match look env t with
      | some x => x
      | none => .bad
    | false => .bad
  | .const v => match v.oneCell' with
    | true => .t (ofV v)
    | false => .bad
  | .func f => .fn f []
  | .global _ => .bad

theorem SR.opd {E : Ent} {N : Nat} {β : K → Nat} {RO : Nat → Prop} {env : Env} {st : St} {a : Act} {w : World} (h : SR E N β RO env st a w) (x : Operand) : VL β RO w (opd env x) (a.eval x) := by
  cases x with
  | tmp t =>
    simp only [Fw.opd]
    split
    · rename_i ht
      split
      · rename_i x hx
        obtain ⟨v, hv, hr⟩ := h.env t x hx
        rw [Nat.blt_eq] at ht
        rw [tmpAt_lt ht] at hv
        simp only [Act.eval, Array.getD_eq_getD_getElem?, hv, Option.getD_some]; exact hr
      · exact .bad _
    · exact .bad _
  | const v =>
    simp only [Fw.opd, Act.eval]
    split
    · rename_i h1; exact .t _ _ (.ofV v h1)
    · exact .bad _
  | func f => exact .fn f []
  | global g => exact .bad _

/-- A cell's content as a value that a slot can hold. -/
def cellsOf : LV → Option (List LV)
  | .agg cs => some cs
  | .bad | .tup _ => none
  | x => some [x]

def lo : IntKind → Int
  | .i8 => -128 | .i16 => -32768 | .i32 => -2147483648 | .i64 => -9223372036854775808 | _ => 0
def hi : IntKind → Int
  | .i8 => 127 | .i16 => 32767 | .i32 => 2147483647 | .i64 => 9223372036854775807
  | .u8 => 255 | .u16 => 65535 | .u32 => 4294967295 | .u64 => 18446744073709551615

theorem wrap_in {k : IntKind} {n : Int} (h1 : lo k ≤ n) (h2 : n ≤ hi k) : k.wrap n = n := by
  cases k <;> simp only [lo, hi] at h1 h2 <;> simp only [IntKind.wrap, IntKind.bits, IntKind.signed] <;> simp <;> omega

def inR (k : IntKind) (n : Int) : Option Value := if lo k ≤ n ∧ n ≤ hi k then some (.int k n) else none

/-- Where sums may wrap, they do; else they have to be in range. -/
def inRw (wr : Bool) (k : IntKind) (n : Int) : Option Value := match wr with
  | true => some (.int k (k.wrap n))
  | false => inR k n

def binV (wr : Bool) (op : BinOp) : Value → Value → Option Value
  | .int k a, .int k' b =>
    if k = k' then match op with
      | .add => inRw wr k (a + b)
      | .sub => inRw wr k (a - b)
      | .mul => inRw wr k (a * b)
      | .quo => if b = 0 then none else inRw wr k (a.tdiv b)
      | .rem => if b = 0 then none else some (.int k (a.tmod b))
      | .eql => some (.bool (a == b))
      | .neq => some (.bool (a != b))
      | .lss => some (.bool (decide (a < b)))
      | .leq => some (.bool (decide (a ≤ b)))
      | .gtr => some (.bool (decide (a > b)))
      | .geq => some (.bool (decide (a ≥ b)))
      | .shr => if 0 ≤ b then some (.int k (a.fdiv (2 ^ min b.toNat k.bits))) else none
      | .and => some (.int k (k.wrap (BitVec.ofInt k.bits a &&& BitVec.ofInt k.bits b).toNat))
      | _ => none
    else none
  | .string a, .string b => match op with
    | .eql => some (.bool (a.toList == b.toList))
    | .neq => some (.bool (!(a.toList == b.toList)))
    | .add => if ((a.size + b.size : Nat) : Int) ≤ 9223372036854775807 then some (.string (a ++ b)) else none
    | _ => none
  | _, _ => none

theorem inR_some {k : IntKind} {n : Int} {r : Value} (h : inR k n = some r) : r = .int k n ∧ k.wrap n = n := by
  unfold inR at h
  split at h
  · rename_i hr; exact ⟨(Option.some.inj h).symm, wrap_in hr.1 hr.2⟩
  · cases h

theorem inRw_some {wr : Bool} {k : IntKind} {n : Int} {r : Value} (h : inRw wr k n = some r) : r = .int k (k.wrap n) := by
  cases wr
  · obtain ⟨h1, h2⟩ := inR_some h; rw [h1, h2]
  · cases h; rfl

theorem run_binV {P : Program} {wr : Bool} {op : BinOp} {t : TypeId} {x y r : Value} (h : binV wr op x y = some r) (w : World) : (binOp op t x y).run P w = .ok r w := by
  unfold binV at h
  split at h
  · rename_i k a k' b
    split at h
    · rename_i hk
      subst hk
      cases op <;> simp only at h
      case add => rw [inRw_some h]; simp [binOp, Op.intArith]
      case sub => rw [inRw_some h]; simp [binOp, Op.intArith]
      case mul => rw [inRw_some h]; simp [binOp, Op.intArith]
      case quo =>
        split at h
        · cases h
        · rename_i hb; rw [inRw_some h]; simp [binOp, Op.intDiv, hb]
      case rem =>
        split at h
        · cases h
        · rename_i hb; cases h; simp [binOp, Op.intDiv, hb]
      case shr =>
        split at h
        · rename_i hb
          cases h
          show (Op.shift .shr k a k b).run P w = _
          unfold Op.shift
          rw [if_neg (by omega)]
          rfl
        · cases h
      case and => cases h; simp [binOp, Op.intBits]
      all_goals first
        | (cases h; simp [binOp, Op.intCmp]; done)
        | cases h
    · cases h
  · rename_i a b
    cases op <;> simp only at h
    case add =>
      split at h
      · rename_i hr
        cases h
        simp only [binOp, Op.stringOp]
        rw [Sem.run_ite, if_neg (by have : IntKind.i64.max = 9223372036854775807 := rfl; omega)]
        rfl
      · cases h
    all_goals first
      | (cases h; simp [binOp, Op.stringOp]; done)
      | cases h
  · cases h

end Go.Fw

/- The value logic, part 2: the operations that only read. -/
namespace Go.Fw
open Go

def LV.int (n : Int) : LV := .t (.v (.int .i64 n))
def LV.bool (b : Bool) : LV := .t (.v (.bool b))

def plainVs : List LV → Option (List Value)
  | [] => some []
  | .t (.v x) :: r => match plainVs r with
    | some l => some (x :: l)
    | none => none
  | _ :: _ => none

def binL (C : Ctx) (op : BinOp) (t : Nat) (x y : LV) : Option LV :=
  match x, y with
  | .t (.v (.bool a)), .t (.v (.bool b)) => match C.ty t with
    | some ⟨.bool, _, _, _⟩ => match op with
      | .eql => some (.bool (a == b))
      | .neq => some (.bool (!(a == b)))
      | _ => none
    | _ => none
  | .t (.v a), .t (.v b) => match binV C.wrap op a b with
    | some r => some (.t (.v r))
    | none => none
  | .t (.sl n _ _), .t (.sl true _ _) => match C.ty t with
    | some ⟨.slice _, _, _, _⟩ => match op with
      | .eql => some (.bool n)
      | .neq => some (.bool (!n))
      | _ => none
    | _ => none
  | .agg xs, .agg ys => match look C.eqs t with
    | some ds => match plainVs xs, plainVs ys with
        | some us, some vs => match eqVs ds us vs with
          | some b => match op with
            | .eql => some (.bool b)
            | .neq => some (.bool (!b))
            | _ => none
          | none => none
        | _, _ => none
    | none => none
  | _, _ => none

def loadPtr (ti : TI) (c : Nat) : Option Ob → Option LV
  | some (.box cs) => match ti.d.agg with
    | true => if c + ti.size ≤ cs.length then some (.agg ((cs.drop c).take ti.size)) else none
    | false => cs[c]?
  | _ => none

def loadPel (ti : TI) (k : K) (sz i j : Nat) : Option Ob → Option LV
  | some (.row _ sz' es) => if sz' = sz then match es[i]? with
      | some el => match ti.d.agg with
        | true => if j + ti.size ≤ el.length then some (.agg (((el.drop j).take ti.size).map .t)) else none
        | false => match el[j]? with
          | some x => some (.t x)
          | none => none
      | none => none
    else none
  | some (.grid (.sl _) _ szi rs) => if sz = 1 ∧ j = 0 then match ti.d.agg with
      | true => none
      | false => match rs[i]? with
        | some .nil => some (.t (.sl true 0 []))
        | some (.row es) => some (.osl (.sub k i) szi 0 es.length)
        | _ => none
    else none
  | _ => none

def loadL (C : Ctx) (st : St) (t : Nat) (x : LV) : Option LV :=
  match C.ty t with
  | none => none
  | some ti => match x with
    | .ptr k c => loadPtr ti c (st.get k)
    | .pel k sz i j => loadPel ti k sz i j (st.get k)
    | .ipt cs => match ti.d.agg with
      | true => if ti.size ≤ cs.length then some (.agg ((cs.take ti.size).map .t)) else none
      | false => match cs[0]? with
        | some x => some (.t x)
        | none => none
    | _ => none

def fldOf (C : Ctx) (s f : Nat) : Option (Nat × TI) :=
  match C.ty s with
  | some ⟨.struct fs, _, _, _⟩ => match fs[f]? with
    | some (off, ft) => match C.ty ft with
      | some ti => some (off, ti)
      | none => none
    | none => none
  | _ => none

def fieldAddrL (C : Ctx) (s f : Nat) (x : LV) : Option LV :=
  match fldOf C s f with
  | none => none
  | some (off, ti) => if ti.size = 0 then none else match x with
    | .ptr k c => some (.ptr k (c + off))
    | .pel k sz i j => some (.pel k sz i (j + off))
    | .ipt cs => some (.ipt (cs.drop off))
    | _ => none

def fieldL (C : Ctx) (s f : Nat) (x : LV) : Option LV :=
  match fldOf C s f with
  | none => none
  | some (off, ti) => match x with
    | .agg cs => match ti.d.agg with
      | true => if off + ti.size ≤ cs.length then some (.agg ((cs.drop off).take ti.size)) else none
      | false => cs[off]?
    | _ => none

def indexAddrL (C : Ctx) (t : Nat) (x i : LV) : Option LV :=
  match C.ty t with
  | some ⟨.slice e, _, _, _⟩ => match C.ty e with
    | some ti => match i with
      | .t (.v (.int _ n)) => match x with
        | .t (.sl _ sz es) => if (sz = ti.size ∧ 0 < sz) ∧ 0 ≤ n then match es[n.toNat]? with
            | some el => some (.ipt el)
            | none => none
          else none
        | .osl k sz off len => if sz = ti.size ∧ 0 ≤ n ∧ n < (len : Int) then some (.pel k sz (off + n.toNat) 0) else none
        | _ => none
      | _ => none
    | none => none
  | _ => none

def indexL (C : Ctx) (t : Nat) (x i : LV) : Option LV :=
  match C.ty t with
  | some ⟨.str, _, _, _⟩ => match x, i with
    | .t (.v (.string s)), .t (.v (.int _ n)) => if 0 ≤ n then match s.data[n.toNat]? with
        | some b => some (.t (.v (.int .u8 b.toNat)))
        | none => none
      else none
    | _, _ => none
  | _ => none

def optInt (env : Env) : Option Operand → Option (Option Int)
  | none => some none
  | some o => match opd env o with
    | .t (.v (.int _ n)) => some (some n)
    | _ => none

/-- Is the slice one from the start of an own row, which stays one though it is empty? -/
def keepB (C : Ctx) (lo : Option Int) : Bool := match C.slz, lo with
  | true, none => true
  | _, _ => false
def sliceL (C : Ctx) (t : Nat) (x : LV) (lo hi : Option Int) : Option LV :=
  match C.ty t with
  | some ⟨.slice e, _, _, _⟩ => match C.ty e with
    | some ti => match x with
      | .t (.sl nil sz es) => if sz = ti.size ∧ 0 ≤ lo.getD 0 ∧ lo.getD 0 ≤ hi.getD (es.length : Int) ∧ hi.getD (es.length : Int) ≤ (es.length : Int) then
          some (.t (.sl nil sz ((es.take (hi.getD (es.length : Int)).toNat).drop (lo.getD 0).toNat)))
        else none
      | .osl k sz off len => if sz = ti.size ∧ 0 ≤ lo.getD 0 ∧ lo.getD 0 ≤ hi.getD (len : Int) ∧ hi.getD (len : Int) ≤ (len : Int) then
          match keepB C lo with
          | true => some (.osl k sz off (hi.getD (len : Int)).toNat)
          | false => (if lo.getD 0 < hi.getD (len : Int) then some (.osl k sz (off + (lo.getD 0).toNat) ((hi.getD (len : Int)).toNat - (lo.getD 0).toNat)) else some (.t (.sl false sz [])))
        else none
      | _ => none
    | none => none
  | some ⟨.str, _, _, _⟩ => match x with
    | .t (.v (.string s)) => if 0 ≤ lo.getD 0 ∧ lo.getD 0 ≤ hi.getD (s.size : Int) ∧ hi.getD (s.size : Int) ≤ (s.size : Int) then
        some (.t (.v (.string (s.extract (lo.getD 0).toNat (hi.getD (s.size : Int)).toNat))))
      else none
    | _ => none
  | _ => none

def capsOf (env : Env) : List Operand → Option (List (K × Nat))
  | [] => some []
  | o :: r => match opd env o, capsOf env r with
    | .ptr k c, some l => some ((k, c) :: l)
    | _, _ => none

/-- A struct's parts laid into its zero cells. -/
def fillL (C : Ctx) (fs : List (Nat × Nat)) (env : Env) : List LV → List (Nat × Operand) → Option (List LV)
  | cells, [] => some cells
  | cells, (i, o) :: r => match fs[i]? with
    | some (off, ft) => match C.ty ft with
      | some ti => match cellsOf (opd env o) with
        | some cs => if cs.length = ti.size ∧ off + cs.length ≤ cells.length then fillL C fs env (cells.take off ++ cs ++ cells.drop (off + cs.length)) r else none
        | none => none
      | none => none
    | none => none

def buildL (C : Ctx) (t : Nat) (env : Env) (parts : List (Nat × Operand)) : Option LV :=
  match C.ty t with
  | some ⟨.struct fs, _, _, zero⟩ => match fs.all fun f => (C.ty f.2).isSome with
   | false => none
   | true => match fillL C fs env (zero.map fun v => .t (ofV v)) parts with
     | some cs => some (.agg cs)
     | none => none
  | _ => none

def lenL (C : Ctx) (st : St) (t : Nat) (x : LV) : Option LV :=
  match C.ty t with
  | some ⟨.slice _, _, _, _⟩ => match x with
    | .t (.sl _ _ es) => some (.int (es.length : Int))
    | .osl _ _ _ len => some (.int (len : Int))
    | _ => none
  | some ⟨.str, _, _, _⟩ => match x with
    | .t (.v (.string s)) => some (.int (s.size : Int))
    | _ => none
  | some ⟨.map _ _, _, _, _⟩ => match x with
    | .mpr m => match st.get m with
      | some (.mp _ l) => some (.int (l.length : Int))
      | some (.grid (.mp _ _) _ _ rs) => some (.int (rs.length : Int))
      | _ => none
    | _ => none
  | _ => none

/-- Two keys are the same. -/
def sameK : Value → Value → Bool
  | .int k a, .int k' b => if k = k' then a == b else false
  | .string a, .string b => a == b
  | .bool a, .bool b => a == b
  | _, _ => false
/-- The value at a key, and whether there is one. -/
def lookKV (k : Value) (z : T) : List (Value × T) → T
  | [] => z
  | (k', x) :: r => if sameK k k' then x else lookKV k z r
def updKV (k : Value) (x : T) : List (Value × T) → List (Value × T)
  | [] => [(k, x)]
  | (k', y) :: r => if sameK k k' then (k, x) :: r else (k', y) :: updKV k x r
def hasKV (k : Value) : List (Value × T) → Bool
  | [] => false
  | (k', _) :: r => if sameK k k' then true else hasKV k r
/-- The place of a key. -/
def findK (k : Value) : List Value → Option Nat
  | [] => none
  | k' :: r => match sameK k k' with
    | true => some 0
    | false => match findK k r with
      | some i => some (i + 1)
      | none => none
/-- What a map of rows tells at a place. -/
def rowAt (m : K) (sz : Nat) (rs : List GR) : Option Nat → Option (LV × Bool)
  | none => some (.t (.sl true 0 []), false)
  | some i => match rs[i]? with
    | some .nil => some (.t (.sl true 0 []), true)
    | some (.row es) => some (.osl (.sub m i) sz 0 es.length, true)
    | _ => none
def isNilV : Value → Bool
  | .slice none 0 0 => true
  | _ => false
def lookupL (C : Ctx) (st : St) (t : Nat) (x k : LV) (ok : Bool) : Option LV :=
  match C.ty t with
  | some ⟨.map kt et, _, _, _⟩ => match C.ty kt, C.ty et with
    | some tk, some te => match te.d.agg, te.zero with
      | false, [z] => match x, k with
        | .mpr m, .t (.v kv) => match st.get m with
          | some (.mp kd l) => match decide (kd = tk.d), keyOK kd kv, ok with
            | true, true, false => some (.t (lookKV kv (ofV z) l))
            | true, true, true => some (.tup [.t (lookKV kv (ofV z) l), .bool (hasKV kv l)])
            | _, _, _ => none
          | some (.grid (.mp kd ks) _ sz rs) => match decide (kd = tk.d), keyOK kd kv, isNilV z, rowAt m sz rs (findK kv ks) with
            | true, true, true, some (y, b) => match ok with
              | false => some y
              | true => some (.tup [y, .bool b])
            | _, _, _, _ => none
          | _ => none
        | _, _ => none
      | _, _ => none
    | _, _ => none
  | _ => none

/-- Is it a type that is told, and no interface type? -/
def concT (C : Ctx) (t : Nat) : Bool := match C.ty t with
  | some ⟨.other, _, _, _⟩ => false
  | some _ => true
  | none => false
def assertL (C : Ctx) (t : Nat) (ok : Bool) (x : LV) : Option LV := match concT C t, ok, x with
  | true, false, .ifc (.ty t') y => match Nat.beq t' t with
    | true => some y
    | false => none
  | true, true, .ifc (.ty t') y => match Nat.beq t' t with
    | true => some (.tup [y, .bool true])
    | false => none
  | _, _, _ => none

/-- The bytes of a row of bytes. -/
def numsOf : List (List T) → Option (List Int)
  | [] => some []
  | [.v (.int .u8 n)] :: r => match numsOf r with
    | some l => some (n :: l)
    | none => none
  | _ :: _ => none
def bytesEs (st : St) (x : LV) : Option (List (List T)) := match x with
  | .t (.sl nl sz es) => match nl with
    | true => some []
    | false => match Nat.beq sz 1 with
      | true => some es
      | false => none
  | .osl k sz off len => match st.get k with
    | some (.row _ sz' es) => match Nat.beq sz 1, Nat.beq sz' 1, Nat.ble (off + len) es.length with
      | true, true, true => some ((es.drop off).take len)
      | _, _, _ => none
    | _ => none
  | _ => none
/-- Is it the conversion of a row of bytes to a string? -/
def isBts (C : Ctx) (src dst : Nat) : Bool := match C.ty src, C.ty dst with
  | some ⟨.slice e, _, _, _⟩, some ⟨.str, _, _, _⟩ => match C.ty e with
    | some ⟨.int .u8, _, _, _⟩ => true
    | _ => false
  | _, _ => false
def convL (C : Ctx) (st : St) (src dst : Nat) (x : LV) : Option LV := match isBts C src dst with
  | true => match bytesEs st x with
    | some es => match numsOf es with
      | some ns => some (.t (.v (.string (strOfNums ns))))
      | none => none
    | none => none
  | false => match C.ty src, C.ty dst, x with
    | some _, some ⟨.int k, _, _, _⟩, .t (.v (.int _ n)) => match inRw C.num k n with
      | some r => some (.t (.v r))
      | none => none
    | _, _, _ => none

def pev (C : Ctx) (env : Env) (st : St) : Op → Option LV
  | .makeInterface t x => match concT C t with
    | true => some (.ifc t (opd env x))
    | false => none
  | .typeAssert x _ t ok => assertL C t ok (opd env x)
  | .move x | .assign x => some (opd env x)
  | .pick c a b => match opd env c with
    | .t (.v (.bool true)) => some (opd env a)
    | .t (.v (.bool false)) => some (opd env b)
    | _ => none
  | .binOp op t x y _ => binL C op t (opd env x) (opd env y)
  | .unOp op _ x => match op, opd env x with
    | .not, .t (.v (.bool b)) => some (.bool (!b))
    | .neg, .t (.v (.int k n)) => match inR k (0 - n) with
      | some r => some (.t (.v r))
      | none => none
    | .xor, .t (.v (.int k n)) => some (.t (.v (.int k (k.wrap (BitVec.ofInt k.bits (if k.signed then -1 else k.max) ^^^ BitVec.ofInt k.bits n).toNat))))
    | _, _ => none
  | .convert src dst x => convL C st src dst (opd env x)
  | .load t a => loadL C st t (opd env a)
  | .fieldAddr s x f => fieldAddrL C s f (opd env x)
  | .field s x f => fieldL C s f (opd env x)
  | .indexAddr t x i => indexAddrL C t (opd env x) (opd env i)
  | .index t x i => indexL C t (opd env x) (opd env i)
  | .slice t x lo hi none => match optInt env lo, optInt env hi with
    | some l, some h => sliceL C t (opd env x) l h
    | _, _ => none
  | .extract x i => match opd env x with
    | .tup vs => vs[i]?
    | _ => none
  | .nilCheck x => match opd env x with
    | .ptr k c => some (.ptr k c)
    | .pel k sz i j => some (.pel k sz i j)
    | .ipt cs => some (.ipt cs)
    | .fn f cap => some (.fn f cap)
    | _ => none
  | .makeFunc (.func f) first cap => match first.toList with
    | [] => match capsOf env cap.toList with
      | some l => some (.fn f l)
      | none => none
    | [x] => match cap.toList with
      | [] => some (.ifc (.bd f) (opd env x))
      | _ :: _ => none
    | _ :: _ => none
  | .lookup t x k ok => lookupL C st t (opd env x) (opd env k) ok
  | .build t parts => buildL C t env parts.toList
  | .call c => match c.callee with
    | .builtin .len => match c.args.toList, c.argTypes.toList with
      | [x], [t] => lenL C st t (opd env x)
      | _, _ => none
    | .builtin .min => match c.args.toList with
      | [x, y] => match opd env x, opd env y with
        | .t (.v (.int .i64 a)), .t (.v (.int .i64 b)) => some (.int (if b < a then b else a))
        | _, _ => none
      | _ => none
    | .builtin .max => match c.args.toList with
      | [x, y] => match opd env x, opd env y with
        | .t (.v (.int .i64 a)), .t (.v (.int .i64 b)) => some (.int (if b > a then b else a))
        | _, _ => none
      | _ => none
    | _ => none
  | _ => none

end Go.Fw

/- The value logic, part 3: the operations that only read are right. -/
namespace Go.Fw
open Go

theorem addr_add (b off n : Nat) : (⟨b, off, none⟩ : Addr).add n = ⟨b, off + n, none⟩ := by
  unfold Addr.add; split <;> simp_all

section
variable {C : Ctx} {P : Program} (hC : C.OK P) {E : Ent} {N : Nat} {β : K → Nat} {RO : Nat → Prop} {env : Env} {st : St} {a : Act} {w : World}

theorem VL.int_inv {x : Value} {n : Int} {k : IntKind} (h : VL β RO w (.t (.v (.int k n))) x) : x = .int k n := by
  cases h with | t _ _ h => cases h; rfl
theorem VL.v_inv {x y : Value} (h : VL β RO w (.t (.v y)) x) : x = y := by
  cases h with | t _ _ h => cases h; rfl

include hC
theorem run_sizeOf {t : Nat} {i : TI} (h : C.ty t = some i) : (sizeOf t).run P w = .ok i.size w := by
  obtain ⟨j, z, hj, h1, _⟩ := (hC.ty h).info
  simp [sizeOf, typeInfo, hj, h1]
theorem run_isAgg {t : Nat} {i : TI} (h : C.ty t = some i) : (isAgg t).run P w = .ok i.d.agg w := by
  obtain ⟨d, hd, he⟩ := (hC.ty h).underlying
  rw [← he]
  simp only [isAgg, Sem.run_bind, run_underlying hd, Result.andThen_ok]
  cases d <;> simp [descOf, D.agg]
theorem run_slice_ty {t : Nat} {e s b : Nat} {z : List Value} (h : C.ty t = some ⟨.slice e, s, b, z⟩) : P.underlying t = some (.slice e) := by
  obtain ⟨d, hd, he⟩ := (hC.ty h).underlying
  rw [hd]; cases d <;> simp [descOf] at he
  rw [he]
theorem run_str_ty {t : Nat} {s b : Nat} {z : List Value} (h : C.ty t = some ⟨.str, s, b, z⟩) : P.underlying t = some .string := by
  obtain ⟨d, hd, he⟩ := (hC.ty h).underlying
  rw [hd]; cases d <;> simp [descOf] at he
  rfl
theorem run_bool_ty {t : Nat} {s b : Nat} {z : List Value} (h : C.ty t = some ⟨.bool, s, b, z⟩) : P.underlying t = some .bool := by
  obtain ⟨d, hd, he⟩ := (hC.ty h).underlying
  rw [hd]; cases d <;> simp [descOf] at he
  rfl
theorem run_int_ty {t : Nat} {k : IntKind} {s b : Nat} {z : List Value} (h : C.ty t = some ⟨.int k, s, b, z⟩) : P.underlying t = some (.int k) := by
  obtain ⟨d, hd, he⟩ := (hC.ty h).underlying
  rw [hd]; cases d <;> simp [descOf] at he
  rw [he]
theorem run_struct_ty {t : Nat} {fs : List (Nat × Nat)} {s b : Nat} {z : List Value} (h : C.ty t = some ⟨.struct fs, s, b, z⟩) :
    ∃ F : Array Field, P.underlying t = some (.struct F) ∧ F.toList.map (fun f => (f.offset, f.type)) = fs := by
  obtain ⟨d, hd, he⟩ := (hC.ty h).underlying
  rw [hd]; cases d <;> simp only [descOf, D.struct.injEq, reduceCtorEq] at he
  exact ⟨_, rfl, he⟩

/-- A load of 'n' cells whose content is told. -/
theorem run_loadVar_cells {t : Nat} {i : TI} (h : C.ty t = some i) (b off : Nat) (cs : List LV) (u : Nat → Value)
    (hc : ∀ (j : Nat) (x : LV), cs[j]? = some x → w.cell? ⟨b, off + j, none⟩ = some (u j) ∧ VL β RO w x (u j) ∧ (u j).oneCell' = true) :
    (∀ x, i.d.agg = false → cs[0]? = some x → ∃ v, (loadVar t ⟨b, off, none⟩).run P w = .ok v w ∧ VL β RO w x v) ∧
    (i.d.agg = true → cs.length = i.size → ∃ v, (loadVar t ⟨b, off, none⟩).run P w = .ok v w ∧ VL β RO w (.agg cs) v) := by
  refine ⟨fun x ha hx => ?_, fun ha hl => ?_⟩
  · obtain ⟨h1, h2, _⟩ := hc 0 x hx
    refine ⟨u 0, ?_, h2⟩
    simp only [loadVar, Sem.run_bind, run_isAgg hC h, Result.andThen_ok, ha]
    simp only [Nat.add_zero] at h1
    simp [h1]
  · have hlen : ((List.range cs.length).map u).length = cs.length := by simp
    have hl2 : (loadCells ⟨b, off, none⟩ ((List.range cs.length).map u).length).run P w = .ok ((List.range cs.length).map u).toArray w :=
      run_loadCells_list (P := P) w ⟨b, off, none⟩ _ fun j v hj => by
        have hj' : j < cs.length := by have := (List.getElem?_eq_some_iff.1 hj).1; simpa using this
        rw [addr_add, (hc j cs[j] (List.getElem?_eq_getElem hj')).1]
        simpa [hj'] using hj
    refine ⟨.agg ((List.range cs.length).map u).toArray, ?_, .agg cs _ (by simp) (fun j x v hx hv => ?_) fun v hv => ?_⟩
    · rw [hlen] at hl2
      simp only [loadVar, Sem.run_bind, run_isAgg hC h, Result.andThen_ok, ha, run_sizeOf hC h, if_true, ← hl, hl2]
      rfl
    · have hj' : j < cs.length := (List.getElem?_eq_some_iff.1 hx).1
      have : u j = v := by simpa [hj'] using hv
      rw [← this]; exact (hc j x hx).2.1
    · obtain ⟨j, hj, rfl⟩ := List.mem_map.1 hv
      have hj' : j < cs.length := by simpa using hj
      exact (hc j cs[j] (List.getElem?_eq_getElem hj')).2.2

omit hC in
theorem row_cell {k : K} {e sz : Nat} {es : List (List T)} {us : List Value} {cap : Nat} (hown : w.ownsRow 0 e sz (.slice (some ⟨β k, 0, none⟩) es.length cap) es.length us)
    (hf : Flat RO w sz es us) {i : Nat} {el : List T} (hi : es[i]? = some el) {j : Nat} {x : T} (hj : el[j]? = some x) :
    ∃ u, w.cell? ⟨β k, i * sz + j, none⟩ = some u ∧ VT RO w x u := by
  obtain ⟨hl, h2⟩ := hf.2 i el hi
  obtain ⟨u, hu, hv⟩ := h2 j x hj
  have hjl : j < sz := hl ▸ (List.getElem?_eq_some_iff.1 hj).1
  have hil : i < es.length := (List.getElem?_eq_some_iff.1 hi).1
  have hlt : i * sz + j < es.length * sz := by
    have := Nat.mul_le_mul_right sz (show i + 1 ≤ es.length from hil)
    rw [Nat.add_mul] at this; omega
  exact ⟨u, by rw [hown.cellAt _ hlt, hu], hv⟩

theorem load_sound {t : Nat} {x : LV} {v : Value} {r : LV} (hw : WR E β RO st w) (hx : VL β RO w x v) (h : loadL C st t x = some r) :
    ∃ u, (Instr.loadAt t v).run P w = .ok u w ∧ VL β RO w r u := by
  unfold loadL at h
  split at h
  · cases h
  · rename_i ti hti
    split at h
    · rename_i k c
      unfold loadPtr at h
      cases hx
      split at h
      · rename_i cs hcs
        obtain ⟨vs, ety, hh, hl, hv, h1⟩ := hw.obj _ _ hcs
        have hcell : ∀ (j : Nat) (x : LV), cs[j]? = some x → w.cell? ⟨β k, j, none⟩ = some (vs.getD j undef) ∧ VL β RO w x (vs.getD j undef) ∧ (vs.getD j undef).oneCell' = true := by
          intro j x hj
          have hlt : j < vs.length := by have := (List.getElem?_eq_some_iff.1 hj).1; omega
          have hg : vs.getD j undef = vs[j] := by simp [List.getD, hlt]
          refine ⟨?_, ?_, ?_⟩
          · rw [cell_of_row w (β k) j _ ety (0, 0) hh, hg]; simp [hlt]
          · exact hv j x _ hj (by rw [hg]; exact List.getElem?_eq_getElem hlt)
          · rw [hg]; exact h1 _ (List.getElem_mem hlt)
        split at h
        · rename_i ha
          split at h
          · rename_i hle
            cases h
            obtain ⟨u, h1, h2⟩ := (run_loadVar_cells hC (β := β) (RO := RO) hti (β k) c ((cs.drop c).take ti.size) (fun j => vs.getD (c + j) undef) (fun j x hj => by
              rw [List.getElem?_take] at hj
              split at hj
              · rw [List.getElem?_drop] at hj; exact hcell _ x hj
              · cases hj)).2 ha (by simp; omega)
            exact ⟨u, by simpa [Instr.loadAt, Instr.sureAddr] using h1, h2⟩
          · cases h
        · rename_i ha
          obtain ⟨u, h1, h2⟩ := (run_loadVar_cells hC (β := β) (RO := RO) hti (β k) c (cs.drop c) (fun j => vs.getD (c + j) undef) (fun j x hj => by
              rw [List.getElem?_drop] at hj; exact hcell _ x hj)).1 r ha (by rw [List.getElem?_drop]; exact h)
          exact ⟨u, by simpa [Instr.loadAt, Instr.sureAddr] using h1, h2⟩
      · cases h
    · rename_i k sz i j
      unfold loadPel at h
      cases hx
      split at h
      · rename_i e sz' es hcs
        obtain ⟨us, cap, hown, hf⟩ := hw.obj _ _ hcs
        split at h
        · rename_i hsz
          subst hsz
          split at h
          · rename_i el hi
            have hcell : ∀ (q : Nat) (x : T), el[q]? = some x → ∃ u, w.cell? ⟨β k, i * sz' + q, none⟩ = some u ∧ VT RO w x u := fun q x hq => row_cell hown hf hi hq
            have hc2 : ∀ (q : Nat) (x : LV), ((el.drop j).map LV.t)[q]? = some x → w.cell? ⟨β k, (i * sz' + j) + q, none⟩ = some ((w.cell? ⟨β k, (i * sz' + j) + q, none⟩).getD undef) ∧
                VL β RO w x ((w.cell? ⟨β k, (i * sz' + j) + q, none⟩).getD undef) ∧ ((w.cell? ⟨β k, (i * sz' + j) + q, none⟩).getD undef).oneCell' = true := by
              intro q x hq
              rw [List.getElem?_map, List.getElem?_drop] at hq
              cases hy : el[j + q]? with
              | none => simp [hy] at hq
              | some y =>
                simp [hy] at hq
                obtain ⟨u, h1, h2⟩ := hcell _ _ hy
                rw [Nat.add_assoc, h1, ← hq]
                exact ⟨rfl, .t _ _ h2, h2.one⟩
            split at h
            · rename_i ha
              split at h
              · rename_i hle
                cases h
                obtain ⟨u, h1, h2⟩ := (run_loadVar_cells hC (β := β) (RO := RO) hti (β k) (i * sz' + j) (((el.drop j).take ti.size).map .t) _ (fun q x hq => by
                  rw [List.map_take, List.getElem?_take] at hq
                  split at hq
                  · exact hc2 q x hq
                  · cases hq)).2 ha (by simp; omega)
                exact ⟨u, by simpa [Instr.loadAt, Instr.sureAddr] using h1, h2⟩
              · cases h
            · rename_i ha
              split at h
              · rename_i y hy
                cases h
                obtain ⟨u, h1, h2⟩ := (run_loadVar_cells hC (β := β) (RO := RO) hti (β k) (i * sz' + j) ((el.drop j).map .t) _ hc2).1 (.t y) ha (by simp [hy])
                exact ⟨u, by simpa [Instr.loadAt, Instr.sureAddr] using h1, h2⟩
              · cases h
          · cases h
        · cases h
      · rename_i eo e szi rs hcs
        obtain ⟨us, cap, hown, hr⟩ := hw.obj _ _ hcs
        split at h
        · rename_i hsz
          obtain ⟨rfl, rfl⟩ := hsz
          split at h
          · cases h
          · rename_i ha
            have hcell : ∀ (rr : GR), rs[i]? = some rr → ∃ u, us[i]? = some u ∧ w.cell? ⟨β k, i * 1 + 0, none⟩ = some u := by
              intro rr hrr
              have hlt : i < rs.length := (List.getElem?_eq_some_iff.1 hrr).1
              have hlu : i < us.length := by have := hown.1; omega
              refine ⟨us[i], List.getElem?_eq_getElem hlu, ?_⟩
              rw [hown.cellAt _ (by omega)]; simp [hlu]
            split at h
            · rename_i hrr
              cases h
              obtain ⟨u, h1, h2⟩ := hcell _ hrr
              have := hr i _ u hrr h1
              simp only at this
              refine ⟨u, ?_, by rw [this]; exact .t _ _ (.nil 0)⟩
              simp only [Instr.loadAt, Instr.sureAddr, loadVar, Sem.run_bind, Sem.run_pure, Result.andThen_ok, run_isAgg hC hti, ha]
              simp only [Nat.mul_one, Nat.add_zero] at h2 ⊢
              simp [h2]
            · rename_i es hrr
              cases h
              obtain ⟨u, h1, h2⟩ := hcell _ hrr
              have := hr i _ u hrr h1
              simp only at this
              refine ⟨u, ?_, this⟩
              simp only [Instr.loadAt, Instr.sureAddr, loadVar, Sem.run_bind, Sem.run_pure, Result.andThen_ok, run_isAgg hC hti, ha]
              simp only [Nat.mul_one, Nat.add_zero] at h2 ⊢
              simp [h2]
            · cases h
        · cases h
      · cases h
    · rename_i cs
      cases hx with
      | ipt _ b off u hb hcell hv =>
      have hc2 : ∀ (q : Nat) (x : LV), (cs.map LV.t)[q]? = some x → w.cell? ⟨b, off + q, none⟩ = some (u q) ∧ VL β RO w x (u q) ∧ (u q).oneCell' = true := by
        intro q x hq
        rw [List.getElem?_map] at hq
        cases hy : cs[q]? with
        | none => simp [hy] at hq
        | some y =>
          simp [hy] at hq
          rw [← hq]
          exact ⟨hcell _ _ hy, .t _ _ (hv _ _ hy), (hv _ _ hy).one⟩
      split at h
      · rename_i ha
        split at h
        · rename_i hle
          cases h
          obtain ⟨u, h1, h2⟩ := (run_loadVar_cells hC (β := β) (RO := RO) hti b off ((cs.take ti.size).map .t) u (fun q x hq => by
            rw [List.map_take, List.getElem?_take] at hq
            split at hq
            · exact hc2 q x hq
            · cases hq)).2 ha (by simp; omega)
          exact ⟨u, by simpa [Instr.loadAt, Instr.sureAddr] using h1, h2⟩
        · cases h
      · rename_i ha
        split at h
        · rename_i y hy
          cases h
          obtain ⟨u, h1, h2⟩ := (run_loadVar_cells hC (β := β) (RO := RO) hti b off (cs.map .t) u hc2).1 (.t y) ha (by simp [hy])
          exact ⟨u, by simpa [Instr.loadAt, Instr.sureAddr] using h1, h2⟩
        · cases h
    · cases h

theorem fldOf_run {s f off : Nat} {ti : TI} (h : fldOf C s f = some (off, ti)) :
    ∃ (F : Array Field) (fd : Field), P.underlying s = some (.struct F) ∧ F[f]? = some fd ∧ fd.offset = off ∧ C.ty fd.type = some ti := by
  unfold fldOf at h
  split at h
  · rename_i fs sz b z hs
    obtain ⟨F, hF, he⟩ := run_struct_ty hC hs
    split at h
    · rename_i off' ft hf
      split at h
      · rename_i ti' hti
        cases h
        rw [← he, List.getElem?_map] at hf
        cases hfd : F.toList[f]? with
        | none => simp [hfd] at hf
        | some fd =>
          simp [hfd] at hf
          exact ⟨F, fd, hF, by simpa using hfd, hf.1, by rw [hf.2]; exact hti⟩
      · cases h
    · cases h
  · cases h

theorem fieldAddr_sound {s f : Nat} {x : LV} {v : Value} {r : LV} (hx : VL β RO w x v) (h : fieldAddrL C s f x = some r) :
    ∃ u, (Instr.fieldAt s v f).run P w = .ok u w ∧ VL β RO w r u := by
  unfold fieldAddrL at h
  split at h
  · cases h
  · rename_i off ti hf
    obtain ⟨F, fd, hF, hfd, ho, ht⟩ := fldOf_run hC hf
    split at h
    · cases h
    · rename_i hsz
      have key : ∀ b o, (Instr.fieldAt s (.pointer (some ⟨b, o, none⟩)) f).run P w = .ok (.pointer (some ⟨b, o + off, none⟩)) w := by
        intro b o
        simp only [Instr.fieldAt, Sem.run_bind, run_underlying hF, Result.andThen_ok, hfd, Instr.sureAddr, Sem.run_pure, fieldPlace, run_sizeOf hC ht, hsz, if_false, ho, addr_add]
      split at h
      · cases h; cases hx; exact ⟨_, key _ _, .ptr _ _⟩
      · rename_i k sz i j
        cases h; cases hx
        exact ⟨_, key _ _, by rw [Nat.add_assoc]; exact .pel _ _ _ _⟩
      · rename_i cs
        cases h
        cases hx with
        | ipt _ b o u hb hcell hv =>
        exact ⟨_, key _ _, .ipt _ _ _ (fun j => u (off + j)) hb (fun j x hj => by rw [List.getElem?_drop] at hj; rw [Nat.add_assoc]; exact hcell _ x hj) fun j x hj => by rw [List.getElem?_drop] at hj; exact hv _ x hj⟩
      · cases h

theorem field_sound {s f : Nat} {x : LV} {v : Value} {r : LV} (hx : VL β RO w x v) (h : fieldL C s f x = some r) :
    ∃ u, (Instr.field s v f).run P w = .ok u w ∧ VL β RO w r u := by
  unfold fieldL at h
  split at h
  · cases h
  · rename_i off ti hf
    obtain ⟨F, fd, hF, hfd, ho, ht⟩ := fldOf_run hC hf
    split at h
    · rename_i cs
      cases hx with
      | agg _ vs hl hv h1 =>
      have hrun : (Instr.field s (.agg vs.toArray) f).run P w = (part fd.type vs.toArray off).run P w := by
        simp only [Instr.field, Sem.run_bind, run_underlying hF, Result.andThen_ok, hfd, asAgg, Sem.run_pure, ho]
      rw [hrun]
      split at h
      · rename_i ha
        split at h
        · rename_i hle
          cases h
          refine ⟨.agg ((vs.drop off).take ti.size).toArray, ?_, .agg _ _ (by simp [hl]) (fun i x v hx hv' => ?_) fun v hv' => h1 v (List.mem_of_mem_drop (List.mem_of_mem_take hv'))⟩
          · simp only [part, Sem.run_bind, run_isAgg hC ht, Result.andThen_ok, ha, if_true, run_sizeOf hC ht, Sem.run_pure]
            congr 2
            rw [← Array.toList_inj]
            simp
          · rw [List.getElem?_take] at hx hv'
            split at hx
            · rename_i hi
              rw [if_pos hi] at hv'
              rw [List.getElem?_drop] at hx hv'
              exact hv _ x v hx hv'
            · cases hx
        · cases h
      · rename_i ha
        have hlt : off < cs.length := (List.getElem?_eq_some_iff.1 h).1
        refine ⟨vs[off]'(by omega), ?_, hv off r _ h (List.getElem?_eq_getElem _)⟩
        simp only [part, Sem.run_bind, run_isAgg hC ht, Result.andThen_ok, ha, Bool.false_eq_true, if_false]
        have : vs.toArray[off]? = some (vs[off]'(by omega)) := by simp [List.getElem?_eq_getElem (show off < vs.length by omega)]
        rw [this]; rfl
    · cases h

theorem indexAddr_sound {t : Nat} {x i : LV} {v vi : Value} {r : LV} (hx : VL β RO w x v) (hi : VL β RO w i vi) (h : indexAddrL C t x i = some r) :
    ∃ u, (Instr.indexAt t v vi).run P w = .ok u w ∧ VL β RO w r u := by
  unfold indexAddrL at h
  split at h
  · rename_i e s b z ht
    have hu := run_slice_ty hC ht
    split at h
    · rename_i ti hti
      split at h
      · rename_i kk n
        have := hi.int_inv; subst this
        have key : ∀ (bb off len c : Nat), 0 ≤ n → n < (len : Int) → (Instr.indexAt t (.slice (some ⟨bb, off, none⟩) len c) (.int kk n)).run P w = .ok (.pointer (some ⟨bb, off + n.toNat * ti.size, none⟩)) w := by
          intro bb off len c h0 h1
          simp only [Instr.indexAt, asIntOf, Sem.run_bind, Sem.run_pure, Result.andThen_ok, run_underlying hu]
          rw [Sem.run_ite, if_pos ⟨h0, h1⟩]
          simp only [Sem.run_bind, run_sizeOf hC hti, Result.andThen_ok, Sem.run_pure, addr_add]
        split at h
        · rename_i nl sz es
          split at h
          · rename_i hc
            obtain ⟨⟨rfl, hz⟩, h0⟩ := hc
            split at h
            · rename_i el hel
              cases h
              have hlt : n.toNat < es.length := (List.getElem?_eq_some_iff.1 hel).1
              cases hx with
              | t _ _ hx =>
              cases hx with
              | nil => simp at hel
              | emp => simp at hel
              | sl _ _ bb off c u hb hc hm hsz hcell hv =>
                refine ⟨_, key bb off es.length c h0 (by omega), .ipt _ _ _ (fun j => u n.toNat j) (hb ⟨n.toNat, el, 0, _, hel, List.getElem?_eq_getElem (by rw [hsz _ _ hel]; exact hz)⟩) (fun j x hj => ?_) fun j x hj => hv _ _ _ _ hel hj⟩
                rw [Nat.add_assoc]
                exact hcell _ _ _ _ hel hj
            · cases h
          · cases h
        · rename_i k sz off len
          split at h
          · rename_i hc
            obtain ⟨rfl, h0, h1⟩ := hc
            cases h
            cases hx with
            | osl _ _ _ _ cap e n hle hs hn hm =>
            exact ⟨_, key _ _ _ _ h0 h1, by rw [← Nat.add_mul, ← Nat.add_zero ((off + _) * _)]; exact .pel _ _ _ _⟩
          · cases h
        · cases h
      · cases h
    · cases h
  · cases h

theorem index_sound {t : Nat} {x i : LV} {v vi : Value} {r : LV} (hx : VL β RO w x v) (hi : VL β RO w i vi) (h : indexL C t x i = some r) :
    ∃ u, (Instr.index t v vi).run P w = .ok u w ∧ VL β RO w r u := by
  unfold indexL at h
  split at h
  · rename_i s b z ht
    have hu := run_str_ty hC ht
    split at h
    · rename_i ss kk n
      have := hi.int_inv; subst this
      have := hx.v_inv; subst this
      split at h
      · rename_i h0
        split at h
        · rename_i bb hb
          cases h
          have hlt : n.toNat < ss.size := (Array.getElem?_eq_some_iff.1 hb).1
          refine ⟨.int .u8 bb.toNat, ?_, .t _ _ (.v _ rfl)⟩
          rw [run_index_string w t ss kk n hu, dif_pos ⟨h0, by omega⟩]
          have : ss[n.toNat] = bb := by
            have h2 := (Array.getElem?_eq_some_iff.1 hb).2
            exact h2
          rw [this]
        · cases h
      · cases h
    · cases h
  · cases h

theorem len_sound {t ty : Nat} {x : LV} {v : Value} {r : LV} (hw : WR E β RO st w) (hx : VL β RO w x v) (h : lenL C st t x = some r) :
    ∃ u, (Builtin.len_ #[t] ty #[v]).run P w = .ok u w ∧ VL β RO w r u := by
  unfold lenL at h
  split at h
  · rename_i e s b z ht
    have hu := run_slice_ty hC ht
    have key : ∀ a n c, (Builtin.len_ #[t] ty #[.slice a n c]).run P w = .ok (.int .i64 n) w := fun a n c => by simp [Builtin.len_, run_underlying hu, goInt]
    split at h
    · cases h
      cases hx with
      | t _ _ hx => cases hx <;> exact ⟨_, key _ _ _, .t _ _ (.v _ rfl)⟩
    · cases h
      cases hx
      exact ⟨_, key _ _ _, .t _ _ (.v _ rfl)⟩
    · cases h
  · rename_i s b z ht
    have hu := run_str_ty hC ht
    split at h
    · cases h
      have := hx.v_inv; subst this
      exact ⟨.int .i64 _, by simp [Builtin.len_, run_underlying hu, goInt], .t _ _ (.v _ rfl)⟩
    · cases h
  · rename_i kt et s b z ht
    obtain ⟨d, hd, hdd⟩ := (hC.ty ht).underlying
    cases d <;> simp [descOf] at hdd
    split at h
    · rename_i m
      split at h
      · rename_i kd l hm
        cases h
        cases hx
        obtain ⟨ents, clock, h1, h2, _⟩ := hw.obj m _ hm
        have hg : (getObj (β m)).run P w = .ok (.map ents clock) w := MapKept.run_getObj_map h1
        exact ⟨.int .i64 l.length, by simp [Builtin.len_, run_underlying hd, hg, goInt, h2], .t _ _ (.v _ rfl)⟩
      · rename_i kd ks e sz rs hm
        cases h
        cases hx
        obtain ⟨ents, clock, h1, h2, _⟩ := hw.obj m _ hm
        have hg : (getObj (β m)).run P w = .ok (.map ents clock) w := MapKept.run_getObj_map h1
        exact ⟨.int .i64 rs.length, by simp [Builtin.len_, run_underlying hd, hg, goInt, h2], .t _ _ (.v _ rfl)⟩
      · cases h
    · cases h
  · cases h

end
end Go.Fw

/- The value logic, part 4: the operations that only read, all of them. -/
namespace Go.Fw
open Go

section
variable {C : Ctx} {P : Program} (hC : C.OK P) {E : Ent} {N : Nat} {β : K → Nat} {RO : Nat → Prop} {env : Env} {st : St} {a : Act} {w : World}

theorem plainVs_inv : ∀ {cs : List LV} {us : List Value} {vs : List Value}, plainVs cs = some us → cs.length = vs.length →
    (∀ (i : Nat) (x : LV) (v : Value), cs[i]? = some x → vs[i]? = some v → VL β RO w x v) → vs = us
  | [], us, vs, h, hl, _ => by
    simp only [plainVs, Option.some.injEq] at h; subst h
    exact List.eq_nil_of_length_eq_zero (by simpa using hl.symm)
  | x :: r, us, vs, h, hl, hv => by
    unfold plainVs at h
    split at h
    · rename_i heq; cases heq
    · rename_i y r' heq
      cases heq
      split at h
      · rename_i l hpl
        cases h
        cases vs with
        | nil => simp at hl
        | cons v vs =>
          have e1 : v = y := (hv 0 _ v rfl rfl).v_inv
          have e2 : vs = _ := plainVs_inv hpl (by simpa using hl) fun i x v h1 h2 => hv (i + 1) x v (by simpa using h1) (by simpa using h2)
          rw [e1, e2]
      · cases h
    · cases h

theorem noguard {op : BinOp} {t : Nat} {o1 o2 : Operand} (u v : Value) (h1 : ∀ xs ys, u = .agg xs → v = .agg ys → False) (h2 : u = .nilIface → v = .nilIface → False) :
    (eqGuard op t o1 o2 u v).run P w = .ok () w := by
  unfold eqGuard
  cases u <;> cases v <;> first
    | exact absurd rfl (h2 rfl)
    | exact (h1 _ _ rfl rfl).elim
    | (cases op <;> simp <;> done)

theorem binV_one {wr : Bool} {op : BinOp} {u v r : Value} (hr : binV wr op u v = some r) : r.oneCell' = true := by
  unfold binV at hr
  split at hr
  · split at hr
    · split at hr <;> first
        | (cases inRw_some hr; rfl)
        | (split at hr <;> first | (obtain ⟨rfl, _⟩ := inR_some hr; rfl) | (cases inRw_some hr; rfl) | (cases hr; rfl) | (cases hr; done))
        | (cases hr; rfl)
        | (cases hr; done)
    · cases hr
  · split at hr <;> first
      | (cases hr; rfl)
      | (split at hr <;> first | (cases hr; rfl) | (cases hr; done))
      | (cases hr; done)
  · cases hr

theorem run_equalIn_nil' (d : Nat) (w : World) (t e : TypeId) (a : Option Addr) (l c : Nat) (h : P.underlying t = some (.slice e)) : (Op.equalIn (d + 1) t (.slice a l c) (.slice none 0 0)).run P w = .ok a.isNone w := by
  cases a <;> simp [Op.equalIn, run_underlying h]
theorem run_eql_slice_nil' (w : World) (t e : TypeId) (a : Option Addr) (l c : Nat) (h : P.underlying t = some (.slice e)) : (binOp .eql t (.slice a l c) (.slice none 0 0)).run P w = .ok (.bool a.isNone) w := by
  have h1 : (Op.equal t (.slice a l c) (.slice none 0 0)).run P w = .ok a.isNone w := run_equalIn_nil' 9999 w t e a l c h
  simp only [binOp]
  simp [h1]
theorem run_neq_slice_nil' (w : World) (t e : TypeId) (a : Option Addr) (l c : Nat) (h : P.underlying t = some (.slice e)) : (binOp .neq t (.slice a l c) (.slice none 0 0)).run P w = .ok (.bool (!a.isNone)) w := by
  have h1 : (Op.equal t (.slice a l c) (.slice none 0 0)).run P w = .ok a.isNone w := run_equalIn_nil' 9999 w t e a l c h
  simp only [binOp]
  simp [h1]

include hC
theorem bin_sound {op : BinOp} {t : Nat} {o1 o2 : Operand} {x y r : LV} {u v : Value} (hx : VL β RO w x u) (hy : VL β RO w y v) (h : binL C op t x y = some r) :
    ∃ z, (do eqGuard op t o1 o2 u v; binOp op t u v : Sem Value).run P w = .ok z w ∧ VL β RO w r z := by
  unfold binL at h
  split at h
  · rename_i p q
    have := hx.v_inv; subst this
    have := hy.v_inv; subst this
    split at h
    · rename_i s b z ht
      have hu := run_bool_ty hC ht
      split at h <;> cases h
      · exact ⟨.bool (p == q), by simp only [Sem.run_bind, noguard (.bool p) (.bool q) (by simp) (by simp), Result.andThen_ok, run_eql_bool w t p q hu], .t _ _ (.v _ rfl)⟩
      · exact ⟨.bool (!(p == q)), by simp only [Sem.run_bind, noguard (.bool p) (.bool q) (by simp) (by simp), Result.andThen_ok, run_neq_bool w t p q hu], .t _ _ (.v _ rfl)⟩
    · cases h
  · rename_i p q hnb
    have := hx.v_inv; subst this
    have := hy.v_inv; subst this
    split at h
    · rename_i rr hr
      cases h
      have h1 : ∀ xs ys, u = .agg xs → v = .agg ys → False := by rintro xs ys rfl rfl; simp [binV] at hr
      have h2 : u = .nilIface → v = .nilIface → False := by rintro rfl rfl; simp [binV] at hr
      exact ⟨rr, by simp only [Sem.run_bind, noguard _ _ h1 h2, Result.andThen_ok, run_binV hr], .t _ _ (.v _ (binV_one hr))⟩
    · cases h
  · rename_i n s1 e1 s2 e2
    split at h
    · rename_i e s b z ht
      have hu := run_slice_ty hC ht
      cases hy with
      | t _ _ hy =>
      cases hy
      have key : ∀ (aa : Option Addr) (l c : Nat), (binOp .eql t (.slice aa l c) (.slice none 0 0)).run P w = .ok (.bool aa.isNone) w ∧ (binOp .neq t (.slice aa l c) (.slice none 0 0)).run P w = .ok (.bool (!aa.isNone)) w := by
        intro aa l c
        exact ⟨run_eql_slice_nil' w t e aa l c hu, run_neq_slice_nil' w t e aa l c hu⟩
      have hn : ∃ aa l c, u = .slice aa l c ∧ aa.isNone = n := by
        cases hx with
        | t _ _ hx => cases hx <;> exact ⟨_, _, _, rfl, rfl⟩
      obtain ⟨aa, l, c, rfl, rfl⟩ := hn
      split at h <;> cases h
      · exact ⟨.bool aa.isNone, by simp only [Sem.run_bind, noguard (.slice aa l c) (.slice none 0 0) (by simp) (by simp), Result.andThen_ok, (key aa l c).1], .t _ _ (.v _ rfl)⟩
      · exact ⟨.bool (!aa.isNone), by simp only [Sem.run_bind, noguard (.slice aa l c) (.slice none 0 0) (by simp) (by simp), Result.andThen_ok, (key aa l c).2], .t _ _ (.v _ rfl)⟩
    · cases h
  · rename_i xs ys
    split at h
    · rename_i n hn
      split at h
      · rename_i us vs hus hvs
        split at h
        · rename_i b hb
          cases hx with
          | agg _ us' hl1 hv1 _ =>
          cases hy with
          | agg _ vs' hl2 hv2 _ =>
          have e1 := plainVs_inv hus hl1 hv1
          have e2 := plainVs_inv hvs hl2 hv2
          subst e1; subst e2
          obtain ⟨hg, heq⟩ := hC.eqs t n hn
          have he := heq w us' vs' b hb
          split at h <;> cases h
          · refine ⟨_, ?_, .t _ _ (.v (.bool b) rfl)⟩
            simp only [Sem.run_bind, run_eqGuard_agg w _ t o1 o2 _ _ hg, Result.andThen_ok, run_eql_struct, he]
          · refine ⟨_, ?_, .t _ _ (.v (.bool (!b)) rfl)⟩
            simp only [Sem.run_bind, run_eqGuard_agg w _ t o1 o2 _ _ hg, Result.andThen_ok, run_neq_struct, he]
        · cases h
      · cases h
    · cases h
  · cases h

omit hC in
theorem optInt_run {o : Option Operand} {l : Option Int} (hs : SR E N β RO env st a w) (h : optInt env o = some l) :
    (o.map a.eval = none ∧ l = none) ∨ ∃ k n, o.map a.eval = some (.int k n) ∧ l = some n := by
  unfold optInt at h
  split at h
  · cases h; exact .inl ⟨rfl, rfl⟩
  · rename_i o
    split at h
    · rename_i k n hn
      cases h
      have := hs.opd o
      rw [hn] at this
      exact .inr ⟨k, n, by simp [this.int_inv], rfl⟩
    · cases h

theorem slice_sound {t : Nat} {x : LV} {v : Value} {r : LV} {lv hv : Option Value} {l h : Option Int}
    (hl : (lv = none ∧ l = none) ∨ ∃ k n, lv = some (.int k n) ∧ l = some n) (hh : (hv = none ∧ h = none) ∨ ∃ k n, hv = some (.int k n) ∧ h = some n)
    (hx : VL β RO w x v) (he : sliceL C t x l h = some r) : ∃ u, (Instr.sliceAt t v lv hv none).run P w = .ok u w ∧ VL β RO w r u := by
  unfold sliceL at he
  split at he
  · rename_i e s b z ht
    have hu := run_slice_ty hC ht
    split at he
    · rename_i ti hti
      have key : ∀ (aa : Option Addr) (len cap : Nat), len ≤ cap → 0 ≤ l.getD 0 → l.getD 0 ≤ h.getD (len : Int) → h.getD (len : Int) ≤ (len : Int) →
          (Instr.sliceAt t (.slice aa len cap) lv hv none).run P w = .ok (.slice (if cap = (l.getD 0).toNat then aa else aa.map (·.add ((l.getD 0).toNat * ti.size))) ((h.getD (len : Int)).toNat - (l.getD 0).toNat) (cap - (l.getD 0).toNat)) w := by
        intro aa len cap hlc h0 h1 h2
        have e1 : ((h.getD (len : Int)).toNat : Int) = h.getD (len : Int) := Int.toNat_of_nonneg (by omega)
        simp only [Instr.sliceAt, Sem.run_bind, run_underlying hu, Result.andThen_ok, Instr.slice]
        rcases hl with ⟨rfl, rfl⟩ | ⟨kl, nl, rfl, rfl⟩ <;> rcases hh with ⟨rfl, rfl⟩ | ⟨kh, nh, rfl, rfl⟩ <;> simp only [Option.getD_some, Option.getD_none] at *
        · simp [Instr.sliceBounds, run_sizeOf hC hti]
        · simp [Instr.sliceBounds, run_sizeOf hC hti, run_sliceBound w kh nh cap _ (by omega) (by omega)]
        · simp [Instr.sliceBounds, run_sizeOf hC hti, run_sliceBound w kl nl len _ (by omega) (by omega)]
        · simp [Instr.sliceBounds, run_sizeOf hC hti, run_sliceBound w kh nh cap _ (by omega) (by omega), run_sliceBound w kl nl nh.toNat _ (by omega) (by omega)]
      split at he
      · rename_i nil sz es
        split at he
        · rename_i hc
          obtain ⟨hsz, h0, h1, h2⟩ := hc
          cases he
          cases hx with
          | t _ _ hx =>
          cases hx with
          | nil =>
            refine ⟨_, key _ _ _ (Nat.le_refl _) h0 h1 h2, ?_⟩
            simp only [List.length_nil] at h1 h2
            have : (l.getD 0).toNat = 0 := by omega
            have h3 : (h.getD ((List.length ([] : List (List T)) : Nat) : Int)).toNat = 0 := by simp only [List.length_nil]; omega
            simp only [List.length_nil] at h3
            simp only [this, h3]
            exact .t _ _ (by simpa using VT.nil (RO := RO) (w := w) sz)
          | emp _ aa c hcm =>
            refine ⟨_, key _ _ _ (Nat.zero_le _) h0 h1 h2, ?_⟩
            simp only [List.length_nil] at h1 h2
            have : (l.getD 0).toNat = 0 := by omega
            have h3 : (h.getD ((List.length ([] : List (List T)) : Nat) : Int)).toNat = 0 := by simp only [List.length_nil]; omega
            simp only [List.length_nil] at h3
            simp only [this, h3]
            refine .t _ _ ?_
            simp only [List.take_nil, List.drop_nil, Nat.sub_zero]
            split
            · exact .emp sz aa c hcm
            · exact .emp sz (aa.add (0 * ti.size)) c hcm
          | sl _ _ bb off c u hb hc hm hsz2 hcell hv2 =>
            refine ⟨_, key _ _ _ hc h0 h1 h2, .t _ _ ?_⟩
            have hln : (l.getD 0).toNat ≤ (h.getD (es.length : Int)).toNat := by omega
            have hle : (h.getD (es.length : Int)).toNat ≤ es.length := by omega
            generalize (l.getD 0).toNat = L at *
            generalize (h.getD (es.length : Int)).toNat = H at *
            by_cases hLH : L = H
            · subst hLH
              have : (es.take L).drop L = [] := by simp
              rw [this, Nat.sub_self]
              by_cases hcL : c = L
              · rw [if_pos hcL]; exact .emp _ _ _ (by omega)
              · rw [if_neg hcL]; exact .emp _ _ _ (by omega)
            · rw [if_neg (by omega)]
              have hlen : ((es.take H).drop L).length = H - L := by simp; omega
              rw [← hlen]
              simp only [Option.map_some, addr_add]
              subst hsz
              have hget : ∀ (i : Nat) (e : List T), ((es.take H).drop L)[i]? = some e → es[L + i]? = some e := by
                intro i e hi
                rw [List.getElem?_drop, List.getElem?_take] at hi
                split at hi
                · exact hi
                · cases hi
              exact .sl _ _ bb _ (c - L) (fun i j => u (L + i) j) (fun ⟨i, e, j, x, hi, hj⟩ => hb ⟨L + i, e, j, x, hget i e hi, hj⟩) (by omega) (by omega) (fun i e hi => hsz2 _ e (hget i e hi))
                (fun i e j x hi hj => by
                  have := hcell _ e j x (hget i e hi) hj
                  rw [Nat.add_assoc, ← Nat.add_assoc (L * _), ← Nat.add_mul]; exact this)
                (fun i e j x hi hj => hv2 _ e j x (hget i e hi) hj)
        · cases he
      · rename_i k sz off len
        split at he
        · rename_i hc
          obtain ⟨hsz, h0, h1, h2⟩ := hc
          cases hx with
          | osl _ _ _ _ cap e n hle hs hn hm =>
          refine ⟨_, key _ _ _ hle h0 h1 h2, ?_⟩
          split at he
          · rename_i hkb
            have hl0 : l = none := by
              unfold keepB at hkb
              split at hkb
              · rfl
              · cases hkb
            subst hl0
            cases he
            simp only [Option.getD_none, Int.toNat_zero, Nat.zero_mul, Nat.sub_zero, Option.map_some] at *
            have : (⟨β k, off * sz, none⟩ : Addr).add 0 = ⟨β k, off * sz, none⟩ := by rw [addr_add]; simp
            rw [this]
            have := VL.osl (β := β) (RO := RO) (w := w) k sz off (h.getD (len : Int)).toNat cap e n (by omega) hs hn hm
            split <;> exact this
          rename_i hkb
          split at he
          · rename_i hlt
            cases he
            rw [if_neg (by omega)]
            simp only [Option.map_some, addr_add]
            subst hsz
            rw [← Nat.add_mul]
            exact .osl k _ (off + (l.getD 0).toNat) _ (cap - (l.getD 0).toNat) e n (by omega) hs (by rw [hn]; congr 1; omega) (by omega)
          · cases he
            have : (h.getD (len : Int)).toNat - (l.getD 0).toNat = 0 := by omega
            rw [this]
            split
            · exact .t _ _ (.emp _ _ _ (by omega))
            · exact .t _ _ (.emp _ _ _ (by omega))
        · cases he
      · cases he
    · cases he
  · rename_i s b z ht
    have hu := run_str_ty hC ht
    split at he
    · rename_i ss
      have := hx.v_inv; subst this
      split at he
      · rename_i hc
        obtain ⟨h0, h1, h2⟩ := hc
        cases he
        have e1 : ((h.getD (ss.size : Int)).toNat : Int) = h.getD (ss.size : Int) := Int.toNat_of_nonneg (by omega)
        refine ⟨.string (ss.extract (l.getD 0).toNat (h.getD (ss.size : Int)).toNat), ?_, .t _ _ (.v _ rfl)⟩
        simp only [Instr.sliceAt, Sem.run_bind, run_underlying hu, Result.andThen_ok, Instr.slice]
        rcases hl with ⟨rfl, rfl⟩ | ⟨kl, nl, rfl, rfl⟩ <;> rcases hh with ⟨rfl, rfl⟩ | ⟨kh, nh, rfl, rfl⟩ <;> simp only [Option.getD_some, Option.getD_none] at *
        · simp [Instr.sliceBounds]
        · simp [Instr.sliceBounds, run_sliceBound w kh nh ss.size _ (by omega) (by omega)]
        · simp [Instr.sliceBounds, run_sliceBound w kl nl ss.size _ (by omega) (by omega)]
        · simp [Instr.sliceBounds, run_sliceBound w kh nh ss.size _ (by omega) (by omega), run_sliceBound w kl nl nh.toNat _ (by omega) (by omega)]
      · cases he
    · cases he
  · cases he

omit hC in
theorem caps_inv (hs : SR E N β RO env st a w) : ∀ {os : List Operand} {l : List (K × Nat)}, capsOf env os = some l → os.map a.eval = l.map fun p => Value.pointer (some ⟨β p.1, p.2, none⟩)
  | [], l, h => by simp only [capsOf, Option.some.injEq] at h; subst h; rfl
  | o :: r, l, h => by
    unfold capsOf at h
    split at h
    · rename_i k c l' ho hr
      cases h
      have h1 := hs.opd o
      rw [ho] at h1
      cases h1'  : a.eval o <;> rw [h1'] at h1 <;> cases h1
      simp only [List.map_cons, h1', caps_inv hs hr]
    · cases h

omit hC in
theorem VL.cells_inv {x : LV} {v : Value} {cs : List LV} (hx : VL β RO w x v) (h : cellsOf x = some cs) :
    cs.length = v.cells.size ∧ (∀ (i : Nat) (y : LV) (u : Value), cs[i]? = some y → v.cells[i]? = some u → VL β RO w y u) ∧ ∀ u ∈ v.cells.toList, u.oneCell' = true := by
  have single : ∀ (v : Value), v.cells = #[v] → v.oneCell' = true → VL β RO w x v → cs = [x] →
      cs.length = v.cells.size ∧ (∀ (i : Nat) (y : LV) (u : Value), cs[i]? = some y → v.cells[i]? = some u → VL β RO w y u) ∧ ∀ u ∈ v.cells.toList, u.oneCell' = true := by
    intro v hv h1 hx hc
    subst hc
    rw [hv]
    refine ⟨rfl, fun i y u hy hu => ?_, fun u hu => ?_⟩
    · cases i with
      | zero => simp at hy hu; rw [← hy, ← hu]; exact hx
      | succ i => simp at hy
    · simp at hu; rw [hu]; exact h1
  cases hx with
  | bad => cases h
  | t x v hv =>
    have h1 := hv.one
    refine single v ?_ h1 (.t x v hv) (by simpa [cellsOf] using h.symm)
    cases v <;> first | rfl | cases h1
  | osl k sz off len cap e n a b c d => exact single _ rfl rfl (.osl k sz off len cap e n a b c d) (by simpa [cellsOf] using h.symm)
  | ptr k c => exact single _ rfl rfl (.ptr k c) (by simpa [cellsOf] using h.symm)
  | pel k s i j => exact single _ rfl rfl (.pel k s i j) (by simpa [cellsOf] using h.symm)
  | ipt cs b o u h1 h2 h3 => exact single _ rfl rfl (.ipt cs b o u h1 h2 h3) (by simpa [cellsOf] using h.symm)
  | fn f cap => exact single _ rfl rfl (.fn f cap) (by simpa [cellsOf] using h.symm)
  | mpr k => exact single _ rfl rfl (.mpr k) (by simpa [cellsOf] using h.symm)
  | ifc t x v hx => cases t with
    | ty t => exact single _ rfl rfl (.ifc (.ty t) x v hx) (by simpa [cellsOf] using h.symm)
    | bd f => exact single _ rfl rfl (.ifc (.bd f) x v hx) (by simpa [cellsOf] using h.symm)
  | agg cs' vs hl hv h1 =>
    cases h
    refine ⟨by simpa [Value.cells] using hl, fun i y u hy hu => hv i y u hy (by simpa [Value.cells] using hu), fun u hu => h1 u (by simpa [Value.cells] using hu)⟩
  | tup => cases h

/-- A list of cells told: the values beside what is told of them. -/
def CellsOK (β : K → Nat) (RO : Nat → Prop) (w : World) (cs : List LV) (vs : List Value) : Prop :=
  cs.length = vs.length ∧ (∀ (i : Nat) (x : LV) (v : Value), cs[i]? = some x → vs[i]? = some v → VL β RO w x v) ∧ ∀ v ∈ vs, v.oneCell' = true

omit hC in
theorem CellsOK.app {c1 c2 : List LV} {v1 v2 : List Value} (h1 : CellsOK β RO w c1 v1) (h2 : CellsOK β RO w c2 v2) : CellsOK β RO w (c1 ++ c2) (v1 ++ v2) := by
  refine ⟨by simp [h1.1, h2.1], fun i x v hx hv => ?_, fun v hv => ?_⟩
  · by_cases hi : i < c1.length
    · rw [List.getElem?_append_left hi] at hx
      rw [List.getElem?_append_left (h1.1 ▸ hi)] at hv
      exact h1.2.1 i x v hx hv
    · rw [List.getElem?_append_right (by omega)] at hx
      rw [List.getElem?_append_right (by rw [← h1.1]; omega), ← h1.1] at hv
      exact h2.2.1 _ x v hx hv
  · rcases List.mem_append.1 hv with hv | hv
    · exact h1.2.2 v hv
    · exact h2.2.2 v hv
omit hC in
theorem CellsOK.take {cs : List LV} {vs : List Value} (h : CellsOK β RO w cs vs) (n : Nat) : CellsOK β RO w (cs.take n) (vs.take n) := by
  refine ⟨by simp [h.1], fun i x v hx hv => ?_, fun v hv => h.2.2 v (List.mem_of_mem_take hv)⟩
  rw [List.getElem?_take] at hx hv
  split at hx
  · rename_i hi; rw [if_pos hi] at hv; exact h.2.1 i x v hx hv
  · cases hx
omit hC in
theorem CellsOK.drop {cs : List LV} {vs : List Value} (h : CellsOK β RO w cs vs) (n : Nat) : CellsOK β RO w (cs.drop n) (vs.drop n) := by
  refine ⟨by simp [h.1], fun i x v hx hv => ?_, fun v hv => h.2.2 v (List.mem_of_mem_drop hv)⟩
  rw [List.getElem?_drop] at hx hv
  exact h.2.1 _ x v hx hv
omit hC in
theorem CellsOK.zero {zs : List Value} (h1 : ∀ v ∈ zs, v.oneCell' = true) : CellsOK β RO w (zs.map fun v => .t (ofV v)) zs := by
  refine ⟨by simp, fun i x v hx hv => ?_, h1⟩
  rw [List.getElem?_map, hv] at hx
  cases hx
  exact .t _ _ (.ofV v (h1 v (List.mem_of_getElem? hv)))

omit hC in
theorem foldl_set (off : Nat) : ∀ (cs : List Value) (vs : List Value) (i : Nat), off + i + cs.length ≤ vs.length →
    (cs.zipIdx i).foldl (fun (acc : Array Value) (p : Value × Nat) => acc.setIfInBounds (off + p.2) p.1) vs.toArray = (vs.take (off + i) ++ cs ++ vs.drop (off + i + cs.length)).toArray
  | [], vs, i, _ => by simp
  | c :: cs, vs, i, h => by
    simp only [List.length_cons] at h
    rw [List.zipIdx_cons, List.foldl_cons]
    have e : vs.toArray.setIfInBounds (off + i) c = (vs.set (off + i) c).toArray := by simp
    simp only [e]
    rw [foldl_set off cs (vs.set (off + i) c) (i + 1) (by simp; omega)]
    congr 1
    have h1 : (vs.set (off + i) c).take (off + (i + 1)) = vs.take (off + i) ++ [c] := by
      rw [← Nat.add_assoc, List.take_succ_eq_append_getElem (by simp; omega), List.take_set_of_le (by omega)]
      simp
    have h2 : (vs.set (off + i) c).drop (off + (i + 1) + cs.length) = vs.drop (off + i + (c :: cs).length) := by
      rw [List.drop_set_of_lt (by omega)]
      simp only [List.length_cons]
      congr 1; omega
    rw [h1, h2]
    simp

include hC
omit hC in
theorem fill_sound {F : Array Field} {fs : List (Nat × Nat)} {places : List (Nat × Nat)} (hF : F.toList.map (fun f => (f.offset, f.type)) = fs)
    (hp : ∀ (i : Nat) (f : Field) (ti : TI), F.toList[i]? = some f → C.ty f.type = some ti → places[i]? = some (f.offset, ti.size)) (hs : SR E N β RO env st a w) :
    ∀ (parts : List (Nat × Operand)) (cs : List LV) (vs : List Value) (r : List LV), CellsOK β RO w cs vs → fillL C fs env cs parts = some r →
      ∃ us, Instr.fill (places.toArray[·]?) vs.toArray (parts.map fun p => (p.1, a.eval p.2)) = some us.toArray ∧ CellsOK β RO w r us
  | [], cs, vs, r, hc, h => by
    simp only [fillL, Option.some.injEq] at h
    subst h
    exact ⟨vs, by simp [Instr.fill], hc⟩
  | (i, o) :: rest, cs, vs, r, hc, h => by
    simp only [fillL] at h
    split at h
    · rename_i off ft hf
      split at h
      · rename_i ti hti
        split at h
        · rename_i pc hpc
          split at h
          · rename_i hsz
            obtain ⟨h1, h2, h3⟩ := (hs.opd o).cells_inv hpc
            have hplace : places.toArray[i]? = some (off, ti.size) := by
              rw [← hF, List.getElem?_map] at hf
              cases hfd : F.toList[i]? with
              | none => simp [hfd] at hf
              | some fd =>
                simp [hfd] at hf
                have := hp i fd ti hfd (by rw [hf.2]; exact hti)
                simpa [hf.1] using this
            have hpv : CellsOK β RO w pc (a.eval o).cells.toList := ⟨by simpa using h1, fun i x v hx hv => h2 i x v hx (by simpa using hv), h3⟩
            have hnew := ((hc.take off).app hpv).app (hc.drop (off + pc.length))
            obtain ⟨us, hu1, hu2⟩ := fill_sound hF hp hs rest _ _ r hnew h
            refine ⟨us, ?_, hu2⟩
            simp only [List.map_cons, Instr.fill]
            simp only [hplace]
            have hl1 : (a.eval o).cells.size = pc.length := h1.symm
            have := hc.1
            rw [if_neg (by simp; omega)]
            have e := foldl_set off (a.eval o).cells.toList vs 0 (by simp; omega)
            simp only [Nat.add_zero] at e
            rw [← Array.foldl_toList]
            simp only [Array.toList_zipIdx]
            rw [e]
            simpa [hl1] using hu1
          · cases h
        · cases h
      · cases h
    · cases h

theorem places_some : ∀ {fl : List Field}, (∀ f ∈ fl, ∃ ti, C.ty f.type = some ti) →
    ∃ places, fl.mapM (fun f => (P.info? f.type).map fun i => (f.offset, i.size)) = some places ∧
      ∀ (i : Nat) (f : Field) (ti : TI), fl[i]? = some f → C.ty f.type = some ti → places[i]? = some (f.offset, ti.size)
  | [], _ => ⟨[], rfl, fun i f ti h => by simp at h⟩
  | f :: fl, h => by
    obtain ⟨pl, h1, h2⟩ := places_some (fl := fl) fun g hg => h g (List.mem_cons_of_mem _ hg)
    obtain ⟨ti, hti⟩ := h f (List.mem_cons_self ..)
    obtain ⟨j, z, hj, hjs, _⟩ := (hC.ty hti).info
    refine ⟨(f.offset, j.size) :: pl, by simp [hj, h1], fun i g tg hg htg => ?_⟩
    cases i with
    | zero =>
      simp at hg; subst hg
      rw [hti] at htg; cases htg
      simp [hjs]
    | succ i => simpa using h2 i g tg (by simpa using hg) htg

theorem build_sound {t : Nat} {parts : List (Nat × Operand)} {r : LV} (hs : SR E N β RO env st a w) (h : buildL C t env parts = some r) :
    ∃ u, (Instr.build t (parts.toArray.map fun p => (p.1, a.eval p.2))).run P w = .ok u w ∧ VL β RO w r u := by
  unfold buildL at h
  split at h
  · rename_i fs s b zero ht
    split at h
    · cases h
    · rename_i hall
      split at h
      · rename_i cs hcs
        cases h
        obtain ⟨F, hF, he⟩ := run_struct_ty hC ht
        obtain ⟨j, z, hj, _, _, hz, hzc⟩ := (hC.ty ht).info
        obtain ⟨places, hp1, hp2⟩ := places_some hC (fl := F.toList) fun f hf => by
          have := List.all_eq_true.1 hall (f.offset, f.type) (by rw [← he]; exact List.mem_map.2 ⟨f, hf, rfl⟩)
          exact Option.isSome_iff_exists.1 this
        have hone : ∀ v ∈ zero, v.oneCell' = true := by
          have := (hC.ty ht).one
          simp only [Bool.and_eq_true, List.all_eq_true] at this
          exact this.1
        obtain ⟨us, h1, h2⟩ := fill_sound he hp2 hs parts _ zero cs (CellsOK.zero hone) hcs
        refine ⟨.agg us.toArray, ?_, .agg _ _ h2.1 h2.2.1 h2.2.2⟩
        refine run_build w t _ us.toArray ?_
        have hz' : z.cells = zero.toArray := by rw [← Array.toList_inj]; simpa using hzc
        simp only [Program.built, hj, hF, hz, hp1, hz']
        simpa using h1
      · cases h
  · cases h

end
end Go.Fw

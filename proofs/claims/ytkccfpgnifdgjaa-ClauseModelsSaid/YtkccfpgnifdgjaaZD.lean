/- Texts that lead to the law, part 4. -/
import Derived.Test.YtkccfpgnifdgjaaZC

/- The value logic, part 15: what is asked of one operation. -/
namespace Go.Fw
open Go

def arW (wr : Bool) (k : IntKind) (n : Int) (K' : LV → Prop) : Prop :=
  match wr with
  | true => ∀ m, m = k.wrap n → K' (.t (.v (.int k m)))
  | false => match k with
  | .i64 => -9223372036854775808 ≤ n ∧ n ≤ 9223372036854775807 ∧ K' (.t (.v (.int .i64 n)))
  | .u8 => 0 ≤ n ∧ n ≤ 255 ∧ K' (.t (.v (.int .u8 n)))
  | .u64 => 0 ≤ n ∧ n ≤ 18446744073709551615 ∧ K' (.t (.v (.int .u64 n)))
  | k => lo k ≤ n ∧ n ≤ hi k ∧ K' (.t (.v (.int k n)))

def someW (o : Option LV) (K' : LV → Prop) : Prop := match o with
  | some x => K' x
  | none => False

def binPW (C : Ctx) (op : BinOp) (t : Nat) (x y : LV) (K' : LV → Prop) : Prop :=
  match x, y with
  | .t (.v (.int k a)), .t (.v (.int k' b)) => if k = k' then match op with
      | .add => arW C.wrap k (a + b) K'
      | .sub => arW C.wrap k (a - b) K'
      | .mul => arW C.wrap k (a * b) K'
      | .quo => b ≠ 0 ∧ arW C.wrap k (a.tdiv b) K'
      | .rem => b ≠ 0 ∧ K' (.t (.v (.int k (a.tmod b))))
      | .eql => K' (.t (.v (.bool (a == b))))
      | .neq => K' (.t (.v (.bool (a != b))))
      | .lss => K' (.t (.v (.bool (decide (a < b)))))
      | .leq => K' (.t (.v (.bool (decide (a ≤ b)))))
      | .gtr => K' (.t (.v (.bool (decide (a > b)))))
      | .geq => K' (.t (.v (.bool (decide (a ≥ b)))))
      | .shr => match C.num with
        | false => 0 ≤ a ∧ b = 1 ∧ arW false k (a / 2) K'
        | true => 0 ≤ b ∧ K' (.t (.v (.int k (a.fdiv (2 ^ min b.toNat k.bits)))))
      | .and => K' (.t (.v (.int k (k.wrap (BitVec.ofInt k.bits a &&& BitVec.ofInt k.bits b).toNat))))
      | _ => False
    else False
  | .t (.v (.string a)), .t (.v (.string b)) => match op with
      | .add => ((a.size + b.size : Nat) : Int) ≤ 9223372036854775807 ∧ K' (.t (.v (.string (a ++ b))))
      | op => someW (binL C op t (.t (.v (.string a))) (.t (.v (.string b)))) K'
  | x, y => someW (binL C op t x y) K'

def idxPW (C : Ctx) (t : Nat) (x i : LV) (K' : LV → Prop) : Prop :=
  match C.ty t with
  | some ⟨.slice e, _, _, _⟩ => match C.ty e with
    | some ti => match i with
      | .t (.v (.int _ n)) => match x with
        | .t (.sl _ sz es) => match Nat.beq sz ti.size && Nat.blt 0 sz with
          | true => 0 ≤ n ∧ ∃ el, es[n.toNat]? = some el ∧ K' (.ipt el)
          | false => False
        | .osl k sz off len => match Nat.beq sz ti.size with
          | true => 0 ≤ n ∧ n < (len : Int) ∧ K' (.pel k sz (off + n.toNat) 0)
          | false => False
        | _ => False
      | _ => False
    | none => False
  | _ => False

def strPW (C : Ctx) (t : Nat) (x i : LV) (K' : LV → Prop) : Prop :=
  match C.ty t with
  | some ⟨.str, _, _, _⟩ => match x, i with
    | .t (.v (.string s)), .t (.v (.int _ n)) => 0 ≤ n ∧ ∃ b, s.data[n.toNat]? = some b ∧ K' (.t (.v (.int .u8 b.toNat)))
    | _, _ => False
  | _ => False

def loadPW (C : Ctx) (st : St) (t : Nat) (x : LV) (K' : LV → Prop) : Prop :=
  match C.ty t with
  | none => False
  | some ti => match x with
    | .pel k sz i j => getW st k fun o => match o with
      | .row _ sz' es => match Nat.beq sz' sz with
        | true => ∃ el, es[i]? = some el ∧ match ti.d.agg with
          | true => j + ti.size ≤ el.length ∧ K' (.agg (((el.drop j).take ti.size).map .t))
          | false => match el[j]? with
            | some x => K' (.t x)
            | none => False
        | false => False
      | .grid (.sl _) _ szi rs => match Nat.beq sz 1, Nat.beq j 0, ti.d.agg with
        | true, true, false => ∃ r, rs[i]? = some r ∧ match r with
          | .nil => K' (.t (.sl true 0 []))
          | .row es => K' (.osl (.sub k i) szi 0 es.length)
          | .out => False
        | _, _, _ => False
      | _ => False
    | .ptr k c => getW st k fun o => match o with
      | .box cs => match ti.d.agg with
        | true => match Nat.ble (c + ti.size) cs.length with
          | true => K' (.agg ((cs.drop c).take ti.size))
          | false => False
        | false => match cs[c]? with
          | some x => K' x
          | none => False
      | _ => False
    | .ipt cs => match ti.d.agg with
      | true => match Nat.ble ti.size cs.length with
        | true => K' (.agg ((cs.take ti.size).map .t))
        | false => False
      | false => match cs[0]? with
        | some x => K' (.t x)
        | none => False
    | _ => False

def slicePW (C : Ctx) (t : Nat) (x : LV) (lo hi : Option Int) (K' : LV → Prop) : Prop :=
  match C.ty t with
  | some ⟨.slice e, _, _, _⟩ => match C.ty e with
    | some ti => match x with
      | .t (.sl nil sz es) => match Nat.beq sz ti.size with
        | true => 0 ≤ lo.getD 0 ∧ lo.getD 0 ≤ hi.getD (es.length : Int) ∧ hi.getD (es.length : Int) ≤ (es.length : Int) ∧
          K' (.t (.sl nil sz ((es.take (hi.getD (es.length : Int)).toNat).drop (lo.getD 0).toNat)))
        | false => False
      | .osl k sz off len => match Nat.beq sz ti.size with
        | true => match keepB C lo with
          | true => 0 ≤ lo.getD 0 ∧ lo.getD 0 ≤ hi.getD (len : Int) ∧ hi.getD (len : Int) ≤ (len : Int) ∧ K' (.osl k sz off (hi.getD (len : Int)).toNat)
          | false => 0 ≤ lo.getD 0 ∧ lo.getD 0 ≤ hi.getD (len : Int) ∧ hi.getD (len : Int) ≤ (len : Int) ∧
          (lo.getD 0 < hi.getD (len : Int) → K' (.osl k sz (off + (lo.getD 0).toNat) ((hi.getD (len : Int)).toNat - (lo.getD 0).toNat))) ∧
          (¬ lo.getD 0 < hi.getD (len : Int) → K' (.t (.sl false sz [])))
        | false => False
      | _ => False
    | none => False
  | some ⟨.str, _, _, _⟩ => match x with
    | .t (.v (.string s)) => 0 ≤ lo.getD 0 ∧ lo.getD 0 ≤ hi.getD (s.size : Int) ∧ hi.getD (s.size : Int) ≤ (s.size : Int) ∧
        K' (.t (.v (.string (s.extract (lo.getD 0).toNat (hi.getD (s.size : Int)).toNat))))
    | _ => False
  | _ => False

def lookPW (C : Ctx) (st : St) (t : Nat) (x k : LV) (ok : Bool) (K' : LV → Prop) : Prop :=
  match C.ty t with
  | some ⟨.map kt et, _, _, _⟩ => match C.ty kt, C.ty et with
    | some tk, some te => match te.d.agg, te.zero with
      | false, [z] => match x, k with
        | .mpr m, .t (.v kv) => getW st m fun o => match o with
          | .mp kd l => match decide (kd = tk.d), keyOK kd kv, ok with
            | true, true, false => ∃ y, lookKV kv (ofV z) l = y ∧ K' (.t y)
            | true, true, true => ∃ y b, lookKV kv (ofV z) l = y ∧ hasKV kv l = b ∧ K' (.tup [.t y, .bool b])
            | _, _, _ => False
          | .grid (.mp kd ks) _ sz rs => match decide (kd = tk.d), keyOK kd kv, isNilV z, ok with
            | true, true, true, false => (findK kv ks = none → K' (.t (.sl true 0 []))) ∧ ∀ i, findK kv ks = some i → ∃ r, rs[i]? = some r ∧ match r with
              | .nil => K' (.t (.sl true 0 []))
              | .row es => K' (.osl (.sub m i) sz 0 es.length)
              | .out => False
            | true, true, true, true => (findK kv ks = none → K' (.tup [.t (.sl true 0 []), .bool false])) ∧ ∀ i, findK kv ks = some i → ∃ r, rs[i]? = some r ∧ match r with
              | .nil => K' (.tup [.t (.sl true 0 []), .bool true])
              | .row es => K' (.tup [.osl (.sub m i) sz 0 es.length, .bool true])
              | .out => False
            | _, _, _, _ => False
          | _ => False
        | _, _ => False
      | _, _ => False
    | _, _ => False
  | _ => False

def numsW (es : List (List T)) (K' : LV → Prop) : Prop := ∃ ns, numsOf es = some ns ∧ K' (.t (.v (.string (strOfNums ns))))
def btsW (st : St) (x : LV) (K' : LV → Prop) : Prop := match x with
  | .t (.sl nl sz es) => match nl with
    | true => numsW [] K'
    | false => match Nat.beq sz 1 with
      | true => numsW es K'
      | false => False
  | .osl k sz off len => getW st k fun o => match o with
    | .row _ sz' es => match Nat.beq sz 1, Nat.beq sz' 1 with
      | true, true => off + len ≤ es.length ∧ numsW ((es.drop off).take len) K'
      | _, _ => False
    | _ => False
  | _ => False
def convPW (C : Ctx) (st : St) (src dst : Nat) (x : LV) (K' : LV → Prop) : Prop := match isBts C src dst with
  | true => btsW st x K'
  | false => match C.ty src, C.ty dst, x with
    | some _, some ⟨.int k, _, _, _⟩, .t (.v (.int _ n)) => arW C.num k n K'
    | _, _, _ => False

def pureW (C : Ctx) (env : Env) (st : St) (o : Op) (K' : LV → Prop) : Prop :=
  match o with
  | .convert src dst x => convPW C st src dst (opd env x) K'
  | .binOp op t x y _ => binPW C op t (opd env x) (opd env y) K'
  | .indexAddr t x i => idxPW C t (opd env x) (opd env i) K'
  | .index t x i => strPW C t (opd env x) (opd env i) K'
  | .load t x => loadPW C st t (opd env x) K'
  | .lookup t x k ok => lookPW C st t (opd env x) (opd env k) ok K'
  | .slice t x lo hi none => match optInt env lo, optInt env hi with
    | some l, some h => slicePW C t (opd env x) l h K'
    | _, _ => False
  | .unOp .neg _ x => match opd env x with
    | .t (.v (.int k n)) => arW false k (0 - n) K'
    | _ => False
  | o => someW (pev C env st o) K'

theorem someW_iff {o : Option LV} {K' : LV → Prop} (h : someW o K') : ∃ x, o = some x ∧ K' x := by
  unfold someW at h
  split at h
  · exact ⟨_, rfl, h⟩
  · cases h

theorem arW_inR {wr : Bool} {k : IntKind} {n : Int} {K' : LV → Prop} (h : arW wr k n K') : ∃ r, inRw wr k n = some r ∧ K' (.t (.v r)) := by
  unfold arW at h
  cases wr
  rotate_left
  · exact ⟨_, rfl, h _ rfl⟩
  simp only [inRw]
  simp only at h
  split at h
  · exact ⟨_, if_pos ⟨h.1, h.2.1⟩, h.2.2⟩
  · exact ⟨_, if_pos ⟨h.1, h.2.1⟩, h.2.2⟩
  · exact ⟨_, if_pos ⟨h.1, h.2.1⟩, h.2.2⟩
  · exact ⟨_, if_pos ⟨h.1, h.2.1⟩, h.2.2⟩

theorem pureW_pev {C : Ctx} {env : Env} {st : St} {o : Op} {K' : LV → Prop} (h : pureW C env st o K') : ∃ x, pev C env st o = some x ∧ K' x := by
  unfold pureW at h
  split at h
  · rename_i src dst x
    simp only [pev, convL]
    unfold convPW at h
    split at h
    · rename_i hb
      simp only [hb]
      unfold btsW at h
      have fin : ∀ es, numsW es K' → bytesEs st (opd env x) = some es → ∃ y, (match bytesEs st (opd env x) with | some es => (match numsOf es with | some ns => some (LV.t (.v (.string (strOfNums ns)))) | none => none) | none => none) = some y ∧ K' y := by
        rintro es ⟨ns, h1, h2⟩ he
        exact ⟨_, by simp only [he, h1], h2⟩
      split at h
      · rename_i nl sz es hx
        split at h
        · exact fin [] h (by rw [hx]; rfl)
        split at h
        · rename_i hsz
          exact fin es h (by rw [hx]; simp only [bytesEs, hsz])
        · cases h
      · rename_i k sz off len hx
        obtain ⟨o, hk, hG⟩ := getW_gives h
        clear h
        split at hG
        · rename_i e0 sz' es
          split at hG
          · rename_i h1 h2
            refine fin _ hG.2 ?_
            rw [hx]
            simp only [bytesEs, hk, h1, h2, Nat.ble_eq_true_of_le hG.1]
          · cases hG
        · cases hG
      · cases h
    rename_i hb
    simp only [hb]
    split at h
    · rename_i k s b z kk n hs hd hx
      obtain ⟨r, h1, h2⟩ := arW_inR h
      exact ⟨_, by simp only [hs, hd, hx, h1], h2⟩
    · cases h
  · rename_i op t x y yt
    simp only [pev]
    unfold binPW at h
    split at h
    · rename_i k a k' b hx hy
      rw [hx, hy]
      split at h
      · rename_i hk
        subst hk
        have key : ∀ {r : Option Value} {F : LV → Prop}, binV C.wrap op (.int k a) (.int k b) = r → (∃ v, r = some v ∧ F (.t (.v v))) → ∃ x, binL C op t (.t (.v (.int k a))) (.t (.v (.int k b))) = some x ∧ F x := by
          rintro r F hr ⟨v, rfl, hF⟩
          exact ⟨_, by simp only [binL, hr], hF⟩
        split at h
        · exact key (by simp only [binV, if_true]) (arW_inR h)
        · exact key (by simp only [binV, if_true]) (arW_inR h)
        · exact key (by simp only [binV, if_true]) (arW_inR h)
        · exact key (by simp only [binV, if_true]; rw [if_neg h.1]) (arW_inR h.2)
        · exact key (by simp only [binV, if_true]; rw [if_neg h.1]) ⟨_, rfl, h.2⟩
        · exact key (by simp only [binV, if_true]) ⟨_, rfl, h⟩
        · exact key (by simp only [binV, if_true]) ⟨_, rfl, h⟩
        · exact key (by simp only [binV, if_true]) ⟨_, rfl, h⟩
        · exact key (by simp only [binV, if_true]) ⟨_, rfl, h⟩
        · exact key (by simp only [binV, if_true]) ⟨_, rfl, h⟩
        · exact key (by simp only [binV, if_true]) ⟨_, rfl, h⟩
        · split at h
          · obtain ⟨h0, rfl, h2⟩ := h
            obtain ⟨r, hr, hK⟩ := arW_inR (wr := false) h2
            obtain ⟨rfl, _⟩ := inR_some hr
            refine key (r := some (.int k (a / 2))) ?_ ⟨_, rfl, hK⟩
            simp only [binV, if_true]
            have hm : min (1 : Int).toNat k.bits = 1 := by cases k <;> rfl
            rw [if_pos (by decide), hm, show ((2 : Int) ^ 1) = 2 from rfl, Int.fdiv_eq_ediv_of_nonneg _ (by decide)]
          · exact key (by simp only [binV, if_true]; rw [if_pos h.1]) ⟨_, rfl, h.2⟩
        · exact key (by simp only [binV, if_true]) ⟨_, rfl, h⟩
        · cases h
      · cases h
    · rename_i a b hx hy
      rw [hx, hy]
      split at h
      · obtain ⟨h1, h2⟩ := h
        exact ⟨_, by simp only [binL, binV]; rw [if_pos h1], h2⟩
      · exact someW_iff h
    · exact someW_iff h
  · rename_i t x i
    simp only [pev, indexAddrL]
    unfold idxPW at h
    split at h
    · rename_i e s b z ht
      split at h
      · rename_i ti hti
        split at h
        · rename_i k n hi
          split at h
          · rename_i nl sz es hx
            split at h
            · rename_i hsz
              simp only [Bool.and_eq_true, Nat.blt_eq] at hsz
              obtain ⟨h0, el, hel, hK⟩ := h
              obtain ⟨hse, hz⟩ := hsz
              have hse := Nat.eq_of_beq_eq_true hse
              subst hse
              exact ⟨_, by simp only [ht, hti, hi, hx, hz, h0, and_self, if_true, hel], hK⟩
            · cases h
          · rename_i k sz off len hx
            split at h
            · rename_i hsz
              simp at hsz
              subst hsz
              obtain ⟨h0, h1, hK⟩ := h
              exact ⟨_, by simp only [ht, hti, hi, hx, h0, h1, and_self, if_true], hK⟩
            · cases h
          · cases h
        · cases h
      · cases h
    · cases h
  · rename_i t x i
    simp only [pev, indexL]
    unfold strPW at h
    split at h
    · rename_i s b z ht
      split at h
      · rename_i ss k n hx hi
        obtain ⟨h0, bb, hb, hK⟩ := h
        exact ⟨_, by simp only [ht, hx, hi, h0, if_true, hb], hK⟩
      · cases h
    · cases h
  · rename_i t x
    simp only [pev, loadL]
    unfold loadPW at h
    split at h
    · cases h
    · rename_i ti hti
      simp only [hti]
      split at h
      · rename_i k sz i j hx
        rw [hx]
        obtain ⟨o, hk, hG⟩ := getW_gives h
        clear h
        simp only [hk]
        split at hG
        · rename_i e sz' es
          split at hG
          · rename_i hsz
            simp at hsz
            obtain ⟨el, hel, hG⟩ := hG
            simp only [loadPel, hsz, if_true, hel]
            split at hG
            · rename_i ha
              exact ⟨_, by simp only [ha, hG.1, if_true], hG.2⟩
            · rename_i ha
              split at hG
              · rename_i y hy; exact ⟨_, by simp only [ha, hy], hG⟩
              · cases hG
          · cases hG
        · rename_i eo e szi rs
          split at hG
          · rename_i h1 h2 ha
            simp at h1 h2
            obtain ⟨r, hr, hG⟩ := hG
            simp only [loadPel, h1, h2, and_self, if_true, ha, hr]
            split at hG
            · exact ⟨_, rfl, hG⟩
            · exact ⟨_, rfl, hG⟩
            · cases hG
          · cases hG
        · cases hG
      · rename_i k c hx
        rw [hx]
        obtain ⟨o, hk, hG⟩ := getW_gives h
        clear h
        simp only [hk]
        split at hG
        · rename_i cs
          simp only [loadPtr]
          split at hG
          · rename_i ha
            split at hG
            · rename_i hle
              simp at hle
              exact ⟨_, by simp only [ha, hle, if_true], hG⟩
            · cases hG
          · rename_i ha
            split at hG
            · rename_i y hy; exact ⟨_, by simp only [ha, hy], hG⟩
            · cases hG
        · cases hG
      · rename_i cs hx
        rw [hx]
        simp only
        split at h
        · rename_i ha
          split at h
          · rename_i hle
            simp at hle
            exact ⟨_, by simp only [ha, hle, if_true], h⟩
          · cases h
        · rename_i ha
          split at h
          · rename_i y hy; exact ⟨_, by simp only [ha, hy], h⟩
          · cases h
      · cases h
  · rename_i t x k ok
    simp only [pev, lookupL]
    unfold lookPW at h
    split at h
    · rename_i kt et s b z0 ht
      simp only [ht]
      split at h
      · rename_i tk te htk hte
        simp only [htk, hte]
        split at h
        · rename_i z hag hz
          simp only [hag, hz]
          split at h
          · rename_i m kv hx hk
            rw [hx, hk]
            obtain ⟨o, hm, hG⟩ := getW_gives h
            clear h
            simp only [hm]
            split at hG
            · rename_i kd l
              split at hG
              · rename_i g1 g2
                obtain ⟨y, rfl, hK⟩ := hG
                simp only [g1, g2]
                exact ⟨_, rfl, hK⟩
              · rename_i g1 g2
                obtain ⟨y, b, rfl, rfl, hK⟩ := hG
                simp only [g1, g2]
                exact ⟨_, rfl, hK⟩
              · cases hG
            · rename_i kd ks ee sz rs
              split at hG
              · rename_i g1 g2 g3
                simp only [g1, g2, g3]
                cases hf : findK kv ks with
                | none => exact ⟨_, by simp only [rowAt], hG.1 hf⟩
                | some i =>
                  obtain ⟨r, hr, hK⟩ := hG.2 i hf
                  cases r with
                  | nil => exact ⟨_, by simp only [rowAt, hr], hK⟩
                  | row es => exact ⟨_, by simp only [rowAt, hr], hK⟩
                  | out => exact hK.elim
              · rename_i g1 g2 g3
                simp only [g1, g2, g3]
                cases hf : findK kv ks with
                | none => exact ⟨_, by simp only [rowAt], hG.1 hf⟩
                | some i =>
                  obtain ⟨r, hr, hK⟩ := hG.2 i hf
                  cases r with
                  | nil => exact ⟨_, by simp only [rowAt, hr], hK⟩
                  | row es => exact ⟨_, by simp only [rowAt, hr], hK⟩
                  | out => exact hK.elim
              · cases hG
            · cases hG
          · cases h
        · cases h
      · cases h
    · cases h
  · rename_i t x lo hi
    simp only [pev]
    split at h
    · rename_i l hh hl hhh
      simp only [hl, hhh, sliceL]
      unfold slicePW at h
      split at h
      · rename_i e s b z ht
        split at h
        · rename_i ti hti
          split at h
          · rename_i nl sz es hx
            split at h
            · rename_i hsz
              simp at hsz
              subst hsz
              obtain ⟨h0, h1, h2, hK⟩ := h
              exact ⟨_, by simp only [ht, hti, hx, h0, h1, h2, and_self, if_true], hK⟩
            · cases h
          · rename_i k sz off len hx
            split at h
            · rename_i hsz
              simp at hsz
              subst hsz
              split at h
              · rename_i hkb
                obtain ⟨h0, h1, h2, hK⟩ := h
                exact ⟨_, by simp only [ht, hti, hx, h0, h1, h2, and_self, if_true, hkb], hK⟩
              rename_i hkb
              obtain ⟨h0, h1, h2, hA, hB⟩ := h
              by_cases hlt : l.getD 0 < hh.getD (len : Int)
              · exact ⟨_, by simp only [ht, hti, hx, h0, h1, h2, and_self, if_true, hlt, hkb], hA hlt⟩
              · exact ⟨_, by simp only [ht, hti, hx, h0, h1, h2, and_self, if_true, hlt, if_false, hkb], hB hlt⟩
            · cases h
          · cases h
        · cases h
      · rename_i s b z ht
        split at h
        · rename_i ss hx
          obtain ⟨h0, h1, h2, hK⟩ := h
          exact ⟨_, by simp only [ht, hx, h0, h1, h2, and_self, if_true], hK⟩
        · cases h
      · cases h
    · cases h
  · rename_i t x
    split at h
    · rename_i k n hx
      obtain ⟨r, h1, h2⟩ := arW_inR h
      have h1 : inR k (0 - n) = some r := h1
      exact ⟨_, by simp only [pev, hx, h1], h2⟩
    · cases h
  · exact someW_iff h

end Go.Fw

/- The value logic, part 16: stores. -/
namespace Go.Fw
open Go

/-- Laid over a list from a place on. -/
def spl {α : Type} : List α → Nat → List α → List α
  | l, 0, [] => l
  | [], _, _ => []
  | _ :: r, 0, y :: s => y :: spl r 0 s
  | x :: r, n + 1, s => x :: spl r n s

theorem spl_eq {α : Type} : ∀ (l : List α) (n : Nat) (s : List α), n + s.length ≤ l.length → spl l n s = l.take n ++ s ++ l.drop (n + s.length)
  | l, 0, [], _ => by cases l <;> simp [spl]
  | [], n + 1, s, h => by simp at h
  | [], 0, y :: s, h => by simp at h
  | x :: r, 0, y :: s, h => by
    simp only [spl]
    rw [spl_eq r 0 s (by simpa using h)]
    simp
  | x :: r, n + 1, s, h => by
    have e : n + 1 + s.length = n + s.length + 1 := by omega
    simp only [spl]
    rw [spl_eq r n s (by simp at h; omega), e]
    simp

def absorbC (s s2 i : Nat) (cur : Fr) : Fr := purgeC (.sub (.cur s) i) (delCur s2 cur)

/-- No walk through a map names this key. -/
def noMit (k : K) : Fr → Bool
  | [] => true
  | (_, .mit m _) :: r => match K.beq m k with
    | true => false
    | false => noMit k r
  | _ :: r => noMit k r

def storeW (C : Ctx) (env : Env) (st : St) (t : Nat) (x y : LV) (K' : Env → St → Prop) : Prop :=
  match C.ty t with
  | none => False
  | some ti => match x with
    | .ptr (.cur s) c => match look st.cur s with
      | some (.box cs) => match cellsOf y with
        | some xs => match Nat.beq xs.length ti.size, Nat.ble (c + xs.length) cs.length with
          | true, true => K' env { st with cur := setCur st.cur s (.box (spl cs c xs)) }
          | _, _ => False
        | none => False
      | _ => False
    | .pel (.cur s) sz i j => match look st.cur s with
      | some (.row _ _ _) => match cellsOf y with
        | some xs => cellsTW (fun ts env st => match Nat.beq ts.length ti.size, look st.cur s with
            | true, some (.row e sz' es) => match Nat.beq sz' sz with
              | true => ∃ el, es[i]? = some el ∧ j + ts.length ≤ el.length ∧ K' env { st with cur := setCur st.cur s (.row e sz (es.set i (spl el j ts))) }
              | false => False
            | _, _ => False) xs [] env st
        | none => False
      | some (.grid (.sl eo) e szi rs) => match y with
        | .osl (.cur s2) szr 0 len => match Nat.beq sz 1, Nat.beq j 0, Nat.beq ti.size 1, Nat.beq szr szi, Nat.beq s2 s, look st.cur s2 with
          | true, true, true, true, false, some (.row e2 szq es) => match Nat.beq szq szi, Nat.beq e2 e, noMit (.sub (.cur s) i) st.cur with
            | true, true, true => len = es.length ∧ i < rs.length ∧ K' (moveE (.cur s2) (.sub (.cur s) i) env) { st with cur := setCur (absorbC s s2 i st.cur) s (.grid eo e szi (rs.set i (.row es))) }
            | _, _, _ => False
          | _, _, _, _, _, _ => False
        | _ => False
      | _ => False
    | .pel (.sub (.cur s) q) sz i j => match look st.cur s with
      | some (.grid _ _ _ _) => match cellsOf y with
        | some xs => cellsTW (fun ts env st => match Nat.beq ts.length ti.size, look st.cur s with
            | true, some (.grid eo e szi rs) => match Nat.beq szi sz with
              | true => ∃ es el, rs[q]? = some (.row es) ∧ es[i]? = some el ∧ j + ts.length ≤ el.length ∧ K' env { st with cur := setCur st.cur s (.grid eo e szi (rs.set q (.row (es.set i (spl el j ts))))) }
              | false => False
            | _, _ => False) xs [] env st
        | none => False
      | _ => False
    | _ => False

section
variable {C : Ctx} {P : Program} (hC : C.OK P) {E : Ent} {N : Nat} {β : K → Nat} {RO : Nat → Prop} {env : Env} {st : St} {a : Act} {w w' : World}

theorem can_cur (s : Nat) : E.can (.cur s) := fun h => by cases h
theorem can_sub (s q : Nat) : E.can (.sub (.cur s) q) := fun h => by cases h

/-- The inner rows of a state whose grid changed at one place. -/
theorem get_setGrid {s q : Nat} {eo eo2 : GO} {e sz : Nat} {rs : List GR} {r' : GR} (h : look st.cur s = some (.grid eo e sz rs)) (hq : q < rs.length) (k : K) :
    St.get { st with cur := setCur st.cur s (.grid eo2 e sz (rs.set q r')) } k = if k = .cur s then some (.grid eo2 e sz (rs.set q r')) else if k = .sub (.cur s) q then r'.map (.row e sz) else st.get k := by
  have hroot : ∀ k, k.root = true → St.get { st with cur := setCur st.cur s (.grid eo2 e sz (rs.set q r')) } k = if k = .cur s then some (.grid eo2 e sz (rs.set q r')) else st.get k := by
    intro k hk
    cases k with
    | cur n => simp only [St.get, look_setCur, K.cur.injEq, h, Option.map_some]
    | fr i n => simp [St.get]
    | sub => cases hk
  cases k with
  | cur n => rw [hroot _ rfl]; simp
  | fr i n => rw [hroot _ rfl]; simp
  | sub k i =>
    rw [if_neg (by simp)]
    cases hk : k.root with
    | false =>
      have no : ∀ S : St, S.get (.sub k i) = none := by
        intro S
        cases hg : S.get (.sub k i) with
        | none => rfl
        | some o => obtain ⟨_, _, _, _, _, hg, _⟩ := St.get_sub hg; rw [St.root_of_get_grid hg] at hk; cases hk
      rw [no, no, if_neg]
      rintro h; cases h; cases hk
    | true =>
      by_cases hks : k = .cur s
      · subst hks
        have e1 : St.get { st with cur := setCur st.cur s (.grid eo2 e sz (rs.set q r')) } (.cur s) = some (.grid eo2 e sz (rs.set q r')) := by rw [hroot _ rfl, if_pos rfl]
        have e2 : st.get (.cur s) = some (.grid eo e sz rs) := h
        by_cases hi : i = q
        · subst hi
          rw [if_pos rfl]
          simp only [St.get] at e1 ⊢
          simp only [e1]
          rw [List.getElem?_set_self hq]
          cases r' <;> rfl
        · rw [if_neg (by simpa using hi)]
          simp only [St.get] at e1 e2 ⊢
          simp only [e1, e2]
          rw [List.getElem?_set_ne (Ne.symm hi)]
      · rw [if_neg (by simp [hks])]
        have := hroot k hk
        rw [if_neg hks] at this
        simp only [St.get, this]

include hC
/-- A store into an element of an inner row. -/
theorem storeSub {s q : Nat} {eo : GO} {e sz i j : Nat} {rs : List GR} {es : List (List T)} {el ts : List T} {v : Value} {t : Nat} {ti : TI} (h : SR E N β RO env st a w) (hk : look st.cur s = some (.grid eo e sz rs)) (hq : rs[q]? = some (.row es))
    (ht : C.ty t = some ti) (hsz : ts.length = ti.size) (hx : VTs RO w ts v.cells.toList) (hi : es[i]? = some el) (hl : j + ts.length ≤ el.length) :
    ∃ w', (storeVar t ⟨β (.sub (.cur s) q), i * sz + j, none⟩ v).run P w = .ok () w' ∧
      SR E N β RO env { st with cur := setCur st.cur s (.grid eo e sz (rs.set q (.row (es.set i (el.take j ++ ts ++ el.drop (j + ts.length)))))) } a w' := by
  have hks : st.get (.sub (.cur s) q) = some (.row e sz es) := by simp only [St.get, hk, hq]
  have hkg : st.get (.cur s) = some (.grid eo e sz rs) := hk
  obtain ⟨us, cap, cur, hh, hnc, hcm, hcs, htk, hul, hf⟩ := row_block (h.wr.obj _ _ hks)
  have hxl := hx.1
  have hel := (hf.2 i el hi).1
  have hil : i < es.length := (List.getElem?_eq_some_iff.1 hi).1
  have hql : q < rs.length := (List.getElem?_eq_some_iff.1 hq).1
  have hmul : i * sz + sz ≤ es.length * sz := by
    have := Nat.mul_le_mul_right sz (show i + 1 ≤ es.length from hil)
    rw [Nat.add_mul] at this; omega
  have hcap : es.length * sz ≤ cur.size := by rw [hcs]; exact Nat.mul_le_mul_right _ hnc
  have hvl : v.cells.size = ts.length := by rw [hxl]; simp
  have h1 : ∀ u ∈ v.cells.toList, u.oneCell' = true := by
    intro u hu
    obtain ⟨q, hq, rfl⟩ := List.getElem_of_mem hu
    exact (hx.2 q (ts[q]'(by omega)) _ (List.getElem?_eq_getElem _) (List.getElem?_eq_getElem hq)).one
  refine ⟨_, run_storeVar_at hC ht hh (by omega) (by omega) h1, ?_⟩
  have hvl2 : v.cells.toList.length = ts.length := hxl.symm
  have hsize : (cur.toList.take (i * sz + j) ++ v.cells.toList ++ cur.toList.drop (i * sz + j + v.cells.toList.length)).toArray.size = cur.size := by
    simp only [List.size_toArray, List.length_append, List.length_take, List.length_drop, Array.length_toList]; omega
  have hsh := shape_setRow w (β (.sub (.cur s) q)) _ cur e (0, 0) hh hsize
  have hnew : ObOK β RO (w.setRow (β (.sub (.cur s) q)) (cur.toList.take (i * sz + j) ++ v.cells.toList ++ cur.toList.drop (i * sz + j + v.cells.toList.length)).toArray) (.sub (.cur s) q) (.row e sz (es.set i (el.take j ++ ts ++ el.drop (j + ts.length)))) := by
    refine ⟨us.take (i * sz + j) ++ v.cells.toList ++ us.drop (i * sz + j + v.cells.toList.length), cap, ⟨?_, .inr ⟨β (.sub (.cur s) q), cap, _, rfl, Nat.zero_le _, setRow_heap w _ _ _ _ _ hh, by simpa using hnc, hcm, by rw [hsize]; exact hcs, ?_⟩⟩, ?_⟩
    · simp only [List.length_append, List.length_take, List.length_drop, List.length_set, hul]; omega
    · refine List.ext_getElem? fun q => ?_
      rw [List.getElem?_take, List.length_set, seg_get us _ _ _ (by omega)]
      simp only []
      rw [seg_get cur.toList _ _ _ (by simp; omega)]
      have hcu : ∀ q, q < es.length * sz → cur.toList[q]? = us[q]? := fun q hq => by rw [← htk, List.getElem?_take, if_pos hq]
      by_cases hq : q < es.length * sz
      · rw [if_pos hq, hcu q hq]
      · rw [if_neg hq, if_neg (by omega), if_neg (by omega), List.getElem?_eq_none (by omega)]
    · refine ((hf.set hi hx hl).mono (fun _ h => h) fun b hb => setRow_other w _ b _ fun e => h.wr.sep _ _ hks (can_sub s q) (by rw [← e]; exact hb))
  refine ⟨h.wr.write (Step.setRow _ _ _) (by simp [World.setRow]) ⟨_, _, hks, can_sub s q, rfl⟩ (fun b hb => setRow_other w _ b _ hb) (fun k' o2 hk' => ?_), h.size, h.defers, fun n x hx => ?_⟩
  · rw [get_setGrid hk hql] at hk'
    split at hk'
    · rename_i he
      subst he
      cases hk'
      refine ⟨⟨_, hkg⟩, ?_⟩
      have hoth := ObOK.other h.wr hks ⟨_, _, _, hh⟩ (fun b hb => setRow_other w _ b _ hb) hsh (can_sub s q) (fun e => by cases e) hkg
      refine hoth.gridTo rfl (by simp) fun i2 r r' u hr hr' hv => ?_
      by_cases h2 : i2 = q
      · subst h2
        rw [List.getElem?_set_self hql] at hr'
        cases hr'
        rw [hq] at hr
        cases hr
        simp only [GrV, List.length_set] at hv ⊢
        exact hv
      · rw [List.getElem?_set_ne (Ne.symm h2), hr] at hr'
        cases hr'
        exact hv
    · split at hk'
      · rename_i he
        subst he
        cases hk'
        exact ⟨⟨_, hks⟩, hnew⟩
      · rename_i hne
        exact ⟨⟨o2, hk'⟩, ObOK.other h.wr hks ⟨_, _, _, hh⟩ (fun b hb => setRow_other w _ b _ hb) hsh (can_sub s q) hne hk'⟩
  · obtain ⟨v, h1, h2⟩ := h.env n x hx
    exact ⟨v, h1, VL.setRow h.wr hks (can_sub s q) rfl hh hsize h2⟩

end
end Go.Fw

/- The value logic, part 17: an own row becomes an inner row; stores as an operation. -/
namespace Go.Fw
open Go

section
variable {C : Ctx} {P : Program} (hC : C.OK P) {E : Ent} {N : Nat} {β : K → Nat} {RO : Nat → Prop} {env : Env} {st : St} {a : Act} {w w' : World}

theorem look_absorb (s s2 i : Nat) (cur : Fr) (n : Nat) : look (absorbC s s2 i cur) n = if n = s2 then none else (look cur n).map fun o => purgeO (.sub (.cur s) i) (purgeO (.cur s2) o) := by
  unfold absorbC
  rw [look_purgeC, look_delCur]
  split
  · rfl
  · cases look cur n <;> rfl

theorem purgeO_no (k : K) {o : Ob} (hm : ∀ m l, o ≠ .mit m l) : (purgeO k o).has k = false := by
  cases o with
  | box cs => exact hasL_purge_no k cs
  | mit m l => exact absurd rfl (hm m l)
  | _ => rfl
theorem purgeO_grid {k : K} {o : Ob} {eo : GO} {e sz : Nat} {rs : List GR} (h : purgeO k o = .grid eo e sz rs) : o = .grid eo e sz rs := by
  cases o <;> simp only [purgeO, reduceCtorEq] at h
  exact h

/-- What a state tells once a row of its own has gone into a grid. -/
theorem get_absorb {s s2 i : Nat} {eo : GO} {e sz : Nat} {rs : List GR} {es : List (List T)} (hs : look st.cur s = some (.grid eo e sz rs)) (hne : s2 ≠ s) (hi : i < rs.length) {k : K} {o : Ob}
    (h : St.get { st with cur := setCur (absorbC s s2 i st.cur) s (.grid eo e sz (rs.set i (.row es))) } k = some o) :
    (k = .cur s ∧ o = .grid eo e sz (rs.set i (.row es))) ∨ (k = .sub (.cur s) i ∧ o = .row e sz es) ∨
      (k ≠ .cur s ∧ k ≠ .sub (.cur s) i ∧ k ≠ .cur s2 ∧ ∃ o0, st.get k = some o0 ∧ (o = purgeO (.sub (.cur s) i) (purgeO (.cur s2) o0) ∨ (k.isCur = false ∧ o = o0))) := by
  have hs' : look (absorbC s s2 i st.cur) s = some (.grid eo e sz rs) := by
    rw [look_absorb, if_neg (Ne.symm hne), hs]; rfl
  have := get_setGrid (st := ⟨st.out, absorbC s s2 i st.cur⟩) hs' hi (r' := .row es) (eo2 := eo) k
  rw [this] at h
  split at h
  · rename_i hk; cases h; exact .inl ⟨hk, rfl⟩
  · rename_i hk1
    split at h
    · rename_i hk; cases h; exact .inr (.inl ⟨hk, rfl⟩)
    · rename_i hk2
      refine .inr (.inr ⟨hk1, hk2, ?_⟩)
      have hcur : ∀ n o, St.get ⟨st.out, absorbC s s2 i st.cur⟩ (.cur n) = some o → K.cur n ≠ .cur s2 ∧ ∃ o0, st.get (.cur n) = some o0 ∧ o = purgeO (.sub (.cur s) i) (purgeO (.cur s2) o0) := by
        intro n o h
        simp only [St.get, look_absorb] at h ⊢
        split at h
        · cases h
        · rename_i hn
          cases hl : look st.cur n with
          | none => simp [hl] at h
          | some o0 => simp [hl] at h; exact ⟨fun e => hn (by cases e; rfl), o0, rfl, h.symm⟩
      cases k with
      | cur n => obtain ⟨h1, o0, h2, h3⟩ := hcur n o h; exact ⟨h1, o0, h2, .inl h3⟩
      | fr j n => exact ⟨(fun e => by cases e), o, h, .inr ⟨rfl, rfl⟩⟩
      | sub k j =>
        obtain ⟨eo', e', sz', rs', es', hg, hj, rfl⟩ := St.get_sub h
        refine ⟨(fun e => by cases e), .row e' sz' es', ?_, .inr ⟨rfl, rfl⟩⟩
        cases k with
        | cur n =>
          obtain ⟨_, o0, h2, h3⟩ := hcur n _ hg
          have := purgeO_grid (purgeO_grid h3.symm)
          subst this
          simp only [St.get] at h2 ⊢
          simp only [h2, hj]
        | fr q n => have hg' : st.get (.fr q n) = _ := hg; simp only [St.get] at hg' ⊢; simp only [hg', hj]
        | sub k2 q => have := St.root_of_get_grid hg; cases this

theorem noMit_look {k : K} : ∀ {cur : Fr}, noMit k cur = true → ∀ n o, look cur n = some o → ∀ m l, o = .mit m l → m ≠ k
  | [], _, n, o, h => by simp [look] at h
  | (q, x) :: r, hn, n, o, h => by
    have hr : noMit k r = true ∧ ∀ m l, x = .mit m l → m ≠ k := by
      unfold noMit at hn
      split at hn
      · rename_i heq; cases heq
      · rename_i heq
        cases heq
        split at hn
        · cases hn
        · rename_i hb
          refine ⟨hn, ?_⟩
          rintro m l he rfl
          cases he
          rw [K.beq_iff.2 rfl] at hb; cases hb
      · rename_i hne heq
        cases heq
        exact ⟨hn, fun m l he => absurd (by rw [he]) (hne _ m l)⟩
    rw [look_cons] at h
    split at h
    · cases h; exact hr.2
    · exact noMit_look hr.1 n o h

theorem VL.no {k0 : K} {b : Nat} {x : LV} {v : Value} (h : VL β RO w x v) (hx : x.has k0 = false) : VL (fun k => if k = k0 then b else β k) RO w x v := by
  refine h.mono (fun _ h => h) (fun _ _ => rfl) (fun k => k ≠ k0) (fun k hk => ⟨if_neg hk, fun _ h => h⟩) fun k hk he => ?_
  subst he
  rw [hx] at hk; cases hk

include hC
theorem storeGrid {s s2 : Nat} {eo e sz i len t : Nat} {rs : List GR} {es : List (List T)} {e2 : Nat} {v : Value} {ti : TI} (h : SR E N β RO env st a w) (hk : look st.cur s = some (.grid eo e sz rs)) (hne : s2 ≠ s)
    (hk2 : look st.cur s2 = some (.row e2 sz es)) (ht : C.ty t = some ti) (hsz : ti.size = 1) (hlen : len = es.length) (hi : i < rs.length) (hmit : noMit (.sub (.cur s) i) st.cur = true) (hx : VL β RO w (.osl (.cur s2) sz 0 len) v) (hee : e2 = e) :
    ∃ w', (storeVar t ⟨β (.cur s), i, none⟩ v).run P w = .ok () w' ∧
      SR E N (fun k => if k = .sub (.cur s) i then β (.cur s2) else β k) RO (moveE (.cur s2) (.sub (.cur s) i) env) { st with cur := setCur (absorbC s s2 i st.cur) s (.grid eo e sz (rs.set i (.row es))) } a w' := by
  subst hlen
  subst hee
  have hkg : st.get (.cur s) = some (.grid eo e2 sz rs) := hk
  have hkr : st.get (.cur s2) = some (.row e2 sz es) := hk2
  obtain ⟨us, cap, hown, hrs⟩ := h.wr.obj _ _ hkg
  rcases hown.2 with ⟨h0, _⟩ | ⟨g, cap', cur, hv, _, hh, hnc, hcm, hcs, htk⟩
  · cases h0
  cases hv
  have hul : us.length = rs.length := by have := hown.1; omega
  have hcur : rs.length ≤ cur.size := by omega
  have hvc : v.cells = #[v] := by cases hx; rfl
  have hrow := h.wr.obj _ _ hkr
  refine ⟨_, run_storeVar_at hC ht hh (by rw [hvc, hsz]; rfl) (by rw [hvc]; simp; omega) (by rw [hvc]; simp; cases hx; rfl), ?_⟩
  rw [hvc]
  have hsize : (cur.toList.take i ++ [v] ++ cur.toList.drop (i + [v].length)).toArray.size = cur.size := by
    simp only [List.size_toArray, List.length_append, List.length_take, List.length_drop, Array.length_toList, List.length_singleton]; omega
  have hsh := shape_setRow w (β (.cur s)) _ cur eo (0, 0) hh hsize
  generalize hw' : w.setRow (β (.cur s)) (cur.toList.take i ++ [v] ++ cur.toList.drop (i + [v].length)).toArray = w' at *
  have hb : ∀ b, b ≠ β (.cur s) → w'.heap[b]? = w.heap[b]? := fun b hb => by rw [← hw']; exact setRow_other w _ b _ hb
  have hβ : ∀ k, k ≠ .sub (.cur s) i → (fun k => if k = .sub (.cur s) i then β (.cur s2) else β k) k = β k := fun k hk => if_neg hk
  have hro : ∀ b, RO b → w'.heap[b]? = w.heap[b]? := fun b hb' => hb b fun e => h.wr.sep _ _ hkg (can_cur s) (e ▸ hb')
  have hst : Step w w' := by rw [← hw']; exact Step.setRow _ _ _
  have hsz' : w'.heap.size = w.heap.size := by rw [← hw']; simp [World.setRow]
  have hval : ∀ {x : LV} {u : Value}, x.has (.sub (.cur s) i) = false → VL β RO w x u → VL (fun k => if k = .sub (.cur s) i then β (.cur s2) else β k) RO w' x u := fun hno hx =>
    (VL.no hx hno).write (g := β (.cur s)) (h.wr.sep _ _ hkg (can_cur s)) hb hsh
  have hold : ∀ k o0, st.get k = some o0 → k ≠ .cur s → ObOK β RO w' k o0 := fun k o0 hg hne => ObOK.other h.wr hkg ⟨_, _, _, hh⟩ hb hsh (can_cur s) hne hg
  have hcanS : ∀ q, E.can (.sub (.cur s) q) := fun q => can_sub s q
  have hbne : β (.cur s2) ≠ β (.cur s) := fun e => hne (by have := h.wr.inj _ _ _ _ hkr hkg (can_cur s2) (can_cur s) e; cases this; rfl)
  refine ⟨⟨hst.os.trans h.wr.os, hst.tape.trans h.wr.tape, hst.output.trans h.wr.output, Nat.le_trans h.wr.size hst.size, fun b hlt hnw => ?_, fun b hb' => by rw [hsz']; exact h.wr.roLt b hb', h.wr.ro0, h.wr.roNew, fun k o hg => ?_, fun k o hg hc => ?_, fun k k' o o' hg hg' hc hc' heq => ?_, fun k o hg hc => ?_, fun k o hg hc => ?_, fun k hf hnm => ?_⟩, h.size, h.defers, fun n x hx => ?_⟩
  · rw [hb b fun e => ?_]
    · exact h.wr.keep b hlt hnw
    · rcases h.wr.objNew _ _ hkg (can_cur s) with h1 | h1
      · exact hnw (e ▸ h1)
      · omega
  · rcases get_absorb hk hne hi hg with ⟨rfl, rfl⟩ | ⟨rfl, rfl⟩ | ⟨h1, h2, h3, o0, h4, h5⟩
    · refine ⟨us.take i ++ [v] ++ us.drop (i + [v].length), cap, ⟨by simp only [List.length_append, List.length_take, List.length_drop, List.length_singleton, List.length_set]; omega, .inr ⟨β (.cur s), cap, _, rfl, Nat.zero_le _, by rw [← hw']; exact setRow_heap w _ _ _ _ _ hh, by simpa using hnc, hcm, by rw [hsize]; exact hcs, ?_⟩⟩, fun q r u hr hu => ?_⟩
      · refine List.ext_getElem? fun q => ?_
        rw [List.getElem?_take, List.length_set, seg_get us _ _ _ (by simp; omega)]
        simp only []
        rw [seg_get cur.toList _ _ _ (by simp; omega)]
        have hcu : ∀ q, q < rs.length * 1 → cur.toList[q]? = us[q]? := fun q hq => by rw [← htk, List.getElem?_take, if_pos hq]
        by_cases hq : q < rs.length * 1
        · rw [if_pos hq, hcu q hq]
        · rw [if_neg hq, if_neg (by omega), if_neg (by simp; omega), List.getElem?_eq_none (by omega)]
      · rw [seg_get us _ _ _ (by simp; omega)] at hu
        by_cases hq : q = i
        · subst hq
          rw [List.getElem?_set_self hi] at hr
          cases hr
          rw [if_neg (by omega), if_pos (by simp)] at hu
          simp at hu
          subst hu
          simp only
          cases hx with
          | osl _ _ _ _ cap2 e' n hle hs hn hm =>
          have := VL.osl (β := fun k => if k = .sub (.cur s) q then β (.cur s2) else β k) (RO := RO) (w := w') (.sub (.cur s) q) sz 0 es.length cap2 e' n hle (by simp only [if_true]; rw [hsh]; exact hs) hn hm
          simpa using this
        · rw [List.getElem?_set_ne (Ne.symm hq)] at hr
          have hqq : us[q]? = some u := by
            by_cases h1 : q < i
            · rw [if_pos h1] at hu; exact hu
            · rw [if_neg h1, if_neg (by simp; omega)] at hu; exact hu
          have := hrs q r u hr hqq
          cases r with
          | nil => exact this
          | out => trivial
          | row es' =>
            simp only at this ⊢
            refine hval ?_ this
            simp only [LV.has, K.under, K.beq, Bool.or_false]
            rw [if_neg (by simpa using Ne.symm hq)]
    · have h1 := hold _ _ hkr (fun e => hne (by cases e; rfl))
      obtain ⟨us2, cap2, g1, g2⟩ := h1
      exact ⟨us2, cap2, by simpa using g1, g2⟩
    · have hok := hold k o0 h4 h1
      have keep : ∀ o1, ObOK β RO w' k o1 → (∀ cs, o1 = .box cs → LV.has.hasL (.sub (.cur s) i) cs = false) → (∀ eo e sz rs, o1 = .grid eo e sz rs → o1 = o0) → (∀ m l, o1 = .mit m l → m ≠ .sub (.cur s) i) → ObOK (fun k => if k = .sub (.cur s) i then β (.cur s2) else β k) RO w' k o1 := by
        intro o1 hok1 hbx hgr hmt
        refine hok1.keep (fun _ h => h) (fun _ _ => rfl) (hβ k h2) rfl (fun cs hcs x hx u hu => VL.no hu (hasL_mem (hbx cs hcs) x hx)) (fun eo' e' sz' rs' ho q es' hq => ⟨hβ _ ?_, fun _ h => h⟩) fun m l ho => ⟨hβ _ (hmt m l ho), rfl⟩
        intro e
        cases e
        exact h1 rfl
      have mitne : ∀ m l, o0 = .mit m l → m ≠ .sub (.cur s) i := by
        rintro m l ho rfl
        subst ho
        cases k with
        | cur n => exact noMit_look hmit n _ h4 _ _ rfl rfl
        | fr j n =>
          have := St.fr_has (s := s) h4
          simp only [Ob.has, K.under, Bool.or_eq_false_iff] at this
          have h5 := this.2
          simp [K.beq] at h5
        | sub k j => obtain ⟨_, _, _, _, _, _, _, h6⟩ := St.get_sub h4; cases h6
      rcases h5 with rfl | ⟨hkc, rfl⟩
      · refine keep _ (hok.purge.purge) (fun cs hcs => ?_) (fun eo' e' sz' rs' ho => ?_) (fun m l ho => ?_)
        · have := purgeO_no (.sub (.cur s) i) (o := purgeO (.cur s2) o0) (fun m l hm => by
            cases o0 <;> simp only [purgeO, reduceCtorEq] at hm
            simp only [purgeO, reduceCtorEq] at hcs)
          rw [hcs] at this; exact this
        · have := purgeO_grid (purgeO_grid ho); rw [this]; rfl
        · refine mitne m l ?_
          cases o0 <;> simp only [purgeO, reduceCtorEq] at ho
          exact ho
      · refine keep _ hok (fun cs hcs => ?_) (fun _ _ _ _ _ => rfl) mitne
        subst hcs
        cases k with
        | cur n => cases hkc
        | fr j n =>
          have := St.fr_has (s := s) h4
          cases hc : LV.has.hasL (.sub (.cur s) i) cs with
          | false => rfl
          | true =>
            have h6 := hasL_trans (a := .cur s) (b := .sub (.cur s) i) (by simp [K.under, K.beq]) hc
            simp only [Ob.has] at this
            rw [h6] at this; cases this
        | sub k j => obtain ⟨_, _, _, _, _, _, _, h6⟩ := St.get_sub h4; cases h6
  · rcases get_absorb hk hne hi hg with ⟨rfl, rfl⟩ | ⟨rfl, rfl⟩ | ⟨h1, h2, h3, o0, h4, h5⟩
    · rw [if_neg (fun e => by cases e)]; exact h.wr.objNew _ _ hkg hc
    · simp only [if_true]; exact h.wr.objNew _ _ hkr (can_cur s2)
    · rw [if_neg h2]; exact h.wr.objNew k o0 h4 hc
  · have key : ∀ {k o}, St.get { st with cur := setCur (absorbC s s2 i st.cur) s (.grid eo e2 sz (rs.set i (.row es))) } k = some o → ∃ k1 o1, st.get k1 = some o1 ∧ (if k = .sub (.cur s) i then β (.cur s2) else β k) = β k1 ∧ (k1 = k ∧ k ≠ .sub (.cur s) i ∧ k ≠ .cur s2 ∨ k1 = .cur s2 ∧ k = .sub (.cur s) i) := by
      intro k o hg
      rcases get_absorb hk hne hi hg with ⟨rfl, rfl⟩ | ⟨rfl, rfl⟩ | ⟨h1, h2, h3, o0, h4, h5⟩
      · exact ⟨_, _, hkg, if_neg (fun e => by cases e), .inl ⟨rfl, (fun e => by cases e), fun e => hne (by cases e; rfl)⟩⟩
      · exact ⟨_, _, hkr, if_pos rfl, .inr ⟨rfl, rfl⟩⟩
      · exact ⟨_, _, h4, if_neg h2, .inl ⟨rfl, h2, h3⟩⟩
    obtain ⟨k1, o1, g1, g2, g3⟩ := key hg
    obtain ⟨k2, o2, f1, f2, f3⟩ := key hg'
    have hkk : E.can k1 ∧ E.can k2 := by
      constructor
      · rcases g3 with ⟨rfl, _⟩ | ⟨rfl, _⟩
        · exact hc
        · exact can_cur s2
      · rcases f3 with ⟨rfl, _⟩ | ⟨rfl, _⟩
        · exact hc'
        · exact can_cur s2
    have e12 : k1 = k2 := h.wr.inj k1 k2 o1 o2 g1 f1 hkk.1 hkk.2 (by rw [← g2, ← f2]; exact heq)
    rcases g3 with ⟨rfl, g4, g5⟩ | ⟨rfl, rfl⟩ <;> rcases f3 with ⟨rfl, f4, f5⟩ | ⟨rfl, rfl⟩
    · exact e12
    · exact absurd e12 g5
    · exact absurd e12.symm f5
    · rfl
  · rcases get_absorb hk hne hi hg with ⟨rfl, rfl⟩ | ⟨rfl, rfl⟩ | ⟨h1, h2, h3, o0, h4, h5⟩
    · rw [if_neg (fun e => by cases e)]; exact h.wr.sep _ _ hkg hc
    · simp only [if_true]; exact h.wr.sep _ _ hkr (can_cur s2)
    · rw [if_neg h2]; exact h.wr.sep k o0 h4 hc
  · rcases get_absorb hk hne hi hg with ⟨rfl, rfl⟩ | ⟨rfl, rfl⟩ | ⟨h1, h2, h3, o0, h4, h5⟩
    · exact absurd (can_cur s) hc
    · exact absurd (can_sub s i) hc
    · rw [if_neg h2]; exact h.wr.fzRO k o0 h4 hc
  · rw [if_neg fun e => by subst e; cases hf]; exact h.wr.stay k hf hnm
  · rw [look_moveE] at hx
    cases hy : look env n with
    | none => simp [hy] at hx
    | some y =>
      simp [hy] at hx
      obtain ⟨u, g1, g2⟩ := h.env n y hy
      refine ⟨u, g1, ?_⟩
      rw [← hx]
      rcases moveV_cases (.cur s2) (.sub (.cur s) i) y with ⟨sz1, off1, len1, rfl, h2⟩ | h2
      · rw [h2]
        cases g2 with
        | osl _ _ _ _ c1 e1 n1 a1 b1 c2 d1 =>
          have := VL.osl (β := fun k => if k = .sub (.cur s) i then β (.cur s2) else β k) (RO := RO) (w := w') (.sub (.cur s) i) sz1 off1 len1 c1 e1 n1 a1 (by simp only [if_true]; rw [hsh]; exact b1) c2 d1
          simpa using this
      · rw [h2]; exact hval (purgeV_no _ _) g2.purge.purge

omit hC in
theorem run_storeAt {t b off : Nat} {v : Value} (h : (storeVar t ⟨b, off, none⟩ v).run P w = .ok () w') : (Instr.storeAt t (.pointer (some ⟨b, off, none⟩)) v).run P w = .ok () w' := by
  simp only [Instr.storeAt, Instr.sureAddr, Sem.run_bind, Sem.run_pure, Result.andThen_ok]; exact h

omit hC in
theorem spl_row {el ts : List T} {j : Nat} (h : j + ts.length ≤ el.length) : spl el j ts = el.take j ++ ts ++ el.drop (j + ts.length) := spl_eq el j ts h

theorem storeW_gives {t : Nat} {x y : LV} {vx vy : Value} {K' : Env → St → Prop} (h : SR E N β RO env st a w) (hx : VL β RO w x vx) (hy : VL β RO w y vy) (hW : storeW C env st t x y K') :
    ∃ w' env' st' β' RO', (Instr.storeAt t vx vy).run P w = .ok () w' ∧ K' env' st' ∧ SR E N β' RO' env' st' a w' := by
  unfold storeW at hW
  split at hW
  · cases hW
  rename_i ti hti
  split at hW
  · rename_i s c
    split at hW
    · rename_i cs hs
      split at hW
      · rename_i xs hxs
        split at hW
        · rename_i h1 h2
          simp at h1 h2
          cases hx
          obtain ⟨c1, c2, c3⟩ := hy.cells_inv hxs
          obtain ⟨w', g1, g2⟩ := storeBox hC h (k := .cur s) rfl (can_cur s) hs hti h1 ⟨by simpa using c1, fun i y v hy hv => c2 i y v hy (by simpa using hv), c3⟩ h2
          refine ⟨w', env, _, β, RO, run_storeAt g1, hW, ?_⟩
          rw [spl_eq cs c xs h2]; exact g2
        · cases hW
      · cases hW
    · cases hW
  · rename_i s sz i j
    split at hW
    · rename_i hs0
      split at hW
      · rename_i xs hxs
        cases hx
        obtain ⟨c1, c2, c3⟩ := hy.cells_inv hxs
        have hcells : CellsOK β RO w xs vy.cells.toList := ⟨by simpa using c1, fun i y v hy hv => c2 i y v hy (by simpa using hv), c3⟩
        obtain ⟨env', st', RO', ts, hro, h2, h3, h4⟩ := cellsTW_gives h hcells (acc := []) (us := []) ⟨rfl, fun i x v hx => by simp at hx⟩ hW
        simp only [List.nil_append] at h3
        split at h4
        · rename_i e sz' es hb hlk
          simp at hb
          split at h4
          · rename_i hszz
            simp at hszz
            subst hszz
            obtain ⟨el, hel, hl, hK⟩ := h4
            obtain ⟨w', g1, g2⟩ := storeRow hC h2 (k := .cur s) rfl (can_cur s) hlk hti hb h3 hel hl
            refine ⟨w', env', _, β, RO', run_storeAt g1, hK, ?_⟩
            rw [spl_row hl]; exact g2
          · cases h4
        · cases h4
      · cases hW
    · rename_i eo e szi rs hs
      split at hW
      · rename_i s2 szr len
        split at hW
        · rename_i e2 szq es h1 h2 h3 h4 h5 h6
          simp at h1 h2 h3 h4
          have h5 : s2 ≠ s := fun e => by rw [e] at h5; simp at h5
          split at hW
          · rename_i h7 h8 h9
            simp at h7 h8
            obtain ⟨hlen, hi, hK⟩ := hW
            subst h1; subst h2; subst h4; subst h7; subst h8
            cases hx
            obtain ⟨w', g1, g2⟩ := storeGrid hC h hs h5 h6 hti h3 hlen hi h9 hy rfl
            refine ⟨w', _, _, _, RO, ?_, hK, g2⟩
            simp only [Nat.mul_one, Nat.add_zero]
            exact run_storeAt g1
          · cases hW
        · cases hW
      · cases hW
    · cases hW
  · rename_i s q sz i j
    split at hW
    · rename_i hs0
      split at hW
      · rename_i xs hxs
        cases hx
        obtain ⟨c1, c2, c3⟩ := hy.cells_inv hxs
        have hcells : CellsOK β RO w xs vy.cells.toList := ⟨by simpa using c1, fun i y v hy hv => c2 i y v hy (by simpa using hv), c3⟩
        obtain ⟨env', st', RO', ts, hro, h2, h3, h4⟩ := cellsTW_gives h hcells (acc := []) (us := []) ⟨rfl, fun i x v hx => by simp at hx⟩ hW
        simp only [List.nil_append] at h3
        split at h4
        · rename_i eo e sz' rs hb hlk
          simp at hb
          split at h4
          · rename_i hszz
            simp at hszz
            subst hszz
            obtain ⟨es, el, hes, hel, hl, hK⟩ := h4
            obtain ⟨w', g1, g2⟩ := storeSub hC h2 hlk hes hti hb h3 hel hl
            refine ⟨w', env', _, β, RO', run_storeAt g1, hK, ?_⟩
            rw [spl_row hl]; exact g2
          · cases h4
        · cases h4
      · cases hW
    · cases hW
  · cases hW

end
end Go.Fw

/- The value logic, part 17m: maps are made and written. -/
namespace Go.Fw
open Go

def mapMakeW (C : Ctx) (env : Env) (st : St) (s t : Nat) (K' : LV → Env → St → Prop) : Prop :=
  match C.ty t with
  | some ⟨.map kt _, _, _, _⟩ => match C.ty kt, freshB env st.cur s with
    | some tk, true => K' (.mpr (.cur s)) env { st with cur := (s, .mp tk.d []) :: st.cur }
    | _, _ => False
  | _ => False

def mapSetW (C : Ctx) (env : Env) (st : St) (t : Nat) (m k x : LV) (K' : Env → St → Prop) : Prop :=
  match C.ty t with
  | some ⟨.map kt _, _, _, _⟩ => match C.ty kt, m, k, x with
    | some tk, .mpr (.cur s), .t (.v kv), .t y => match look st.cur s with
      | some (.mp kd l) => match decide (kd = tk.d), keyOK kd kv, noMit (.cur s) st.cur with
        | true, true, true => K' env { st with cur := setCur st.cur s (.mp kd (updKV kv y l)) }
        | _, _, _ => False
      | _ => False
    | _, _, _, _ => False
  | _ => False

section
variable {C : Ctx} {P : Program} (hC : C.OK P) {E : Ent} {N : Nat} {β : K → Nat} {RO : Nat → Prop} {env : Env} {st : St} {a : Act} {w w' : World}

theorem mapMakeW_gives (h : SR E N β RO env st a w) {s t : Nat} {K' : LV → Env → St → Prop} (hW : mapMakeW C env st s t K') : Gives P E N a w (Instr.makeMap t none) K' := by
  unfold mapMakeW at hW
  split at hW
  · split at hW
    · rename_i tk htk hf
      obtain ⟨h1, h2⟩ := h.fresh hf
      refine ⟨.map (some w.heap.size), w.alloc (.map #[] 0), _, _, _, fun k => if k = .cur s then w.heap.size else β k, RO, ?_, hW, ?_, ?_⟩
      · simp [Instr.makeMap, newObj, Sem.run]
      · refine h.alloc h1 h2 (Step.alloc _ _) (by rw [alloc_size]; omega) (alloc_old _ _) ?_ ?_
        · intro i o ho
          obtain ⟨_, _, _, _, _, hg, _⟩ := St.get_sub ho
          simp only [St.get, look_cons, if_true] at hg
          cases hg
        · refine ⟨#[], 0, ?_, rfl, (fun p hp => by cases hp), (fun i p m hp hm => by simp at hp), (fun i j m n hm => by simp at hm), fun m hm => by simp at hm⟩
          simp only [if_true]; exact alloc_new _ _
      · have := VL.mpr (β := fun k => if k = .cur s then w.heap.size else β k) (RO := RO) (w := w.alloc (.map #[] 0)) (.cur s)
        simpa using this
    · cases hW
  · cases hW

/-- A write into an object that holds no cells. -/
theorem WR.setObj {s : Nat} {o o' : Ob} {ob ob' : Obj} (h : WR E β RO st w) (hk : look st.cur s = some o) (ho : ∀ eo e sz rs, o ≠ .grid eo e sz rs) (ho' : ∀ eo e sz rs, o' ≠ .grid eo e sz rs) (hm : ∀ m l, o' ≠ .mit m l) (_hno : noMit (.cur s) st.cur = true)
    (_hb : w.heap[β (.cur s)]? = some ob) (hc : ∀ b, ({ w with heap := w.heap.setIfInBounds (β (.cur s)) ob' } : World).shape? b = w.shape? b)
    (hob : ObOK β RO { w with heap := w.heap.setIfInBounds (β (.cur s)) ob' } (.cur s) o') : WR E β RO { st with cur := setCur st.cur s o' } { w with heap := w.heap.setIfInBounds (β (.cur s)) ob' } := by
  have hks : st.get (.cur s) = some o := hk
  have hother : ∀ b, b ≠ β (.cur s) → (w.heap.setIfInBounds (β (.cur s)) ob')[b]? = w.heap[b]? := fun b hb' => Array.getElem?_setIfInBounds_ne (Ne.symm hb')
  have hro : ∀ b, RO b → (w.heap.setIfInBounds (β (.cur s)) ob')[b]? = w.heap[b]? := fun b hb' => hother b fun e => h.sep _ _ hks (can_cur s) (e ▸ hb')
  refine h.write (g := β (.cur s)) ⟨rfl, rfl, rfl, by simp⟩ (by simp) ⟨_, _, hks, can_cur s, rfl⟩ hother fun k o2 hk2 => ?_
  have hset : { st with cur := setCur st.cur s o' } = st.set (.cur s) o' := rfl
  rw [hset, St.get_set_plain rfl hks ho ho' hm] at hk2
  split at hk2
  · rename_i he
    subst he
    cases hk2
    exact ⟨⟨_, hks⟩, hob.wk⟩
  · rename_i hne
    refine ⟨⟨o2, hk2⟩, ?_⟩
    have hok := h.obj k o2 hk2
    have hbne : β k ≠ β (.cur s) := fun e => by
      by_cases hc' : E.can k
      · exact hne (h.inj k (.cur s) o2 o hk2 hks hc' (can_cur s) e)
      · exact h.sep _ _ hks (can_cur s) (e ▸ h.fzRO k o2 hk2 hc')
    refine hok.keep (fun _ h => h) hro rfl (hother _ hbne) (fun cs _ x _ v hv => hv.write (g := β (.cur s)) (h.sep _ _ hks (can_cur s)) hother hc) (fun _ _ _ _ _ _ _ _ => ⟨rfl, fun _ hr => (hc _).trans hr⟩) fun m left hmit => ?_
    subst hmit
    obtain ⟨_, _, _, _, _, hr, _⟩ := hok
    exact ⟨rfl, hro _ hr⟩

include hC
theorem mapSetW_gives {t : Nat} {m k x : LV} {vm vk vx : Value} {K' : Env → St → Prop} (h : SR E N β RO env st a w) (hm : VL β RO w m vm) (hk : VL β RO w k vk) (hx : VL β RO w x vx) (hW : mapSetW C env st t m k x K') :
    ∃ w' env' st' β' RO', (Instr.mapUpdate t vm vk vx).run P w = .ok () w' ∧ K' env' st' ∧ SR E N β' RO' env' st' a w' := by
  unfold mapSetW at hW
  split at hW
  · rename_i kt et s0 b0 z0 ht
    have hu := run_map_ty hC ht
    split at hW
    · rename_i tk s kv y htk
      obtain ⟨d, hd, hdd⟩ := (hC.ty htk).underlying
      split at hW
      · rename_i kd l hl
        split at hW
        · rename_i g1 g2 g3
          have g1 : kd = tk.d := by simpa using g1
          subst g1
          have hvk := hk.v_inv
          subst hvk
          cases hm
          cases hx with
          | t _ _ hy =>
          have hks : st.get (.cur s) = some (.mp tk.d l) := hl
          obtain ⟨ents, clock, h1, h2, h3, h4, h5, h6⟩ := h.wr.obj _ _ hks
          have hf := findNow_kv hdd g2 l ents.toList 0 (by simpa using h2) (fun i p m hp hm => (h4 i p m hp (by simpa using hm)).1) h3
          have hck : (Instr.checkKey false 10000 kt vk).run P w = .ok () w := MapKept.run_checkKey hd (isKey_of hdd g2) _ 9999
          have hshape : ∀ (es : Array MapEntry) (c : Nat) (b : Nat), ({ w with heap := w.heap.setIfInBounds (β (.cur s)) (.map es c) } : World).shape? b = w.shape? b := by
            intro es c b
            by_cases hb : b = β (.cur s)
            · subst hb
              unfold World.shape?
              rw [(MapKept.heap_set (o' := .map es c) h1).1, h1]
            · exact shape_of_block (w := w) (w' := { w with heap := w.heap.setIfInBounds (β (.cur s)) (.map es c) }) ((MapKept.heap_set h1).2 b hb)
          have hro : ∀ (es : Array MapEntry) (c : Nat) (b : Nat), RO b → (w.heap.setIfInBounds (β (.cur s)) (.map es c))[b]? = w.heap[b]? := fun es c b hb => (MapKept.heap_set h1).2 b fun e => h.wr.sep _ _ hks (can_cur s) (e ▸ hb)
          have fin : ∀ (es : Array MapEntry) (c : Nat), (Instr.mapUpdate t (.map (some (β (.cur s)))) vk vx).run P w = .ok () { w with heap := w.heap.setIfInBounds (β (.cur s)) (.map es c) } →
              es.size = (updKV vk y l).length → (∀ (i : Nat) (p : Value × T) (m : MapEntry), (updKV vk y l)[i]? = some p → es[i]? = some m → m.key = p.1 ∧ VT RO w p.2 m.val) → (∀ p ∈ updKV vk y l, keyOK tk.d p.1 = true) →
              (∀ (i j : Nat) (m n : MapEntry), es[i]? = some m → es[j]? = some n → i < j → m.born < n.born) → (∀ m ∈ es, m.born < c) →
              ∃ w' env' st' β' RO', (Instr.mapUpdate t (.map (some (β (.cur s)))) vk vx).run P w = .ok () w' ∧ K' env' st' ∧ SR E N β' RO' env' st' a w' := by
            intro es c hrun e1 e2 e3 e4 e5
            refine ⟨_, env, _, β, RO, hrun, hW, ?_, h.size, h.defers, fun n z hz => ?_⟩
            · exact h.wr.setObj hl (fun _ _ _ _ e => by cases e) (fun _ _ _ _ e => by cases e) (fun _ _ e => by cases e) g3 h1 (hshape es c)
                ⟨es, c, (MapKept.heap_set h1).1, e1, e3, fun i p m hp hm => ⟨(e2 i p m hp hm).1, (e2 i p m hp hm).2.mono (fun _ h => h) (hro es c)⟩, e4, e5⟩
            · obtain ⟨v, q1, q2⟩ := h.env n z hz
              exact ⟨v, q1, q2.write (g := β (.cur s)) (h.wr.sep _ _ hks (can_cur s)) (fun b hb => (MapKept.heap_set h1).2 b hb) (hshape es c)⟩
          rcases hf with ⟨f1, f2, f3, f4⟩ | ⟨j, p, mm, f1, f2, f3, f4, f5, f6, f7⟩
          · refine fin (ents.push { key := vk, val := vx, born := clock }) (clock + 1) ?_ (by rw [f4]; simp [h2]) (fun i p m hp hm => ?_) (fun p hp => ?_) (fun i j m n hi hj hlt => ?_) fun m hm => ?_
            · simp only [Instr.mapUpdate, Sem.run_bind, run_underlying hu, Result.andThen_ok, MapKept.run_getObj_map h1, hck, MapKept.run_findKey hd f1, MapKept.run_setObj_map _ h1]
            · rw [f4] at hp
              rw [Array.getElem?_push] at hm
              split at hm
              · rename_i hi
                cases hm
                rw [List.getElem?_append_right (by omega)] at hp
                have : i - l.length = 0 := by omega
                rw [this] at hp
                simp at hp
                rw [← hp]; exact ⟨rfl, hy⟩
              · have hlt := (Array.getElem?_eq_some_iff.1 hm).1
                rw [List.getElem?_append_left (by omega)] at hp
                exact h4 i p m hp hm
            · rw [f4] at hp
              rcases List.mem_append.1 hp with hp | hp
              · exact h3 p hp
              · simp at hp; rw [hp]; exact g2
            · rw [Array.getElem?_push] at hi hj
              split at hi
              · cases hi
                split at hj
                · omega
                · have := (Array.getElem?_eq_some_iff.1 hj).1; omega
              · split at hj
                · cases hj
                  exact h6 m (Array.mem_of_getElem? hi)
                · exact h5 i j m n hi hj hlt
            · rcases Array.mem_push.1 hm with hm | rfl
              · have := h6 m hm; omega
              · show clock < clock + 1; omega
          · have f3 : ents[j]? = some mm := by simpa using f3
            have hmod : ∀ (i : Nat) (m : MapEntry), (ents.modify j fun e => { e with key := vk, val := vx })[i]? = some m → (i = j ∧ m = { mm with key := vk, val := vx }) ∨ (i ≠ j ∧ ents[i]? = some m) := by
              intro i m hm
              rw [Array.getElem?_modify] at hm
              by_cases hij : j = i
              · subst hij
                rw [if_pos rfl, f3] at hm
                simp at hm
                exact .inl ⟨rfl, hm.symm⟩
              · rw [if_neg hij] at hm
                exact .inr ⟨Ne.symm hij, hm⟩
            refine fin (ents.modify j fun e => { e with key := vk, val := vx }) clock ?_ (by rw [f7]; simp [h2]) (fun i p m hp hm => ?_) (fun p hp => ?_) (fun i j' m n hi hj hlt => ?_) fun m hm => ?_
            · simp only [Instr.mapUpdate, Sem.run_bind, run_underlying hu, Result.andThen_ok, MapKept.run_getObj_map h1, hck, MapKept.run_findKey hd f1]
              have : ((ents[0 + j]?).map (·.key)).getD vk = vk := by rw [Nat.zero_add, f3]; exact f4
              rw [this, MapKept.run_keyThatStays (isKey_of hdd g2)]
              simp only [Result.andThen_ok, MapKept.run_setObj_map _ h1, Nat.zero_add]
            · rw [f7] at hp
              rcases hmod i m hm with ⟨rfl, rfl⟩ | ⟨hne, hm⟩
              · rw [List.getElem?_set_self (by have := (List.getElem?_eq_some_iff.1 f2).1; exact this)] at hp
                cases hp; exact ⟨rfl, hy⟩
              · rw [List.getElem?_set_ne (Ne.symm hne)] at hp
                exact h4 i p m hp hm
            · rw [f7] at hp
              rcases List.mem_or_eq_of_mem_set hp with hp | rfl
              · exact h3 p hp
              · exact g2
            · have born : ∀ (i : Nat) (m : MapEntry), (ents.modify j fun e => { e with key := vk, val := vx })[i]? = some m → ∃ m0 : MapEntry, ents[i]? = some m0 ∧ m0.born = m.born := by
                intro i m hm
                rcases hmod i m hm with ⟨rfl, rfl⟩ | ⟨hne, hm⟩
                · exact ⟨mm, f3, rfl⟩
                · exact ⟨m, hm, rfl⟩
              obtain ⟨m0, q1, q2⟩ := born i m hi
              obtain ⟨n0, q3, q4⟩ := born j' n hj
              rw [← q2, ← q4]; exact h5 i j' m0 n0 q1 q3 hlt
            · obtain ⟨i, hi⟩ := Array.mem_iff_getElem?.1 hm
              rcases hmod i m hi with ⟨rfl, rfl⟩ | ⟨hne, hm⟩
              · exact h6 mm (Array.mem_of_getElem? f3)
              · exact h6 m (Array.mem_of_getElem? hm)
        · cases hW
      · cases hW
    · cases hW
  · cases hW

end
end Go.Fw

/- The value logic, part 17r: a range over a map; a row is sorted. -/
namespace Go.Fw
open Go

def rangeW (C : Ctx) (env : Env) (st : St) (s t : Nat) (x : LV) (K' : LV → Env → St → Prop) : Prop :=
  match C.ty t with
  | some ⟨.map _ _, _, _, _⟩ => match x with
    | .mpr (.cur m) => match look st.cur m with
      | some (.mp _ kv) => match Nat.beq m s, freshB (purgeE (.cur m) env) (delCur m st.cur) s with
        | false, true => K' (.ptr (.cur s) 0) (purgeE (.cur m) env) { st with cur := (s, .mit (.cur m) ((.slice none 0 0, .v (.bool false)) :: kv)) :: delCur m st.cur }
        | _, _ => False
      | _ => False
    | _ => False
  | _ => False

def nextW (st : St) (x : LV) (K' : LV → St → Prop) : Prop :=
  match x with
  | .ptr (.cur s) 0 => match look st.cur s with
    | some (.mit m (_ :: rest)) => (rest = [] → K' (.tup [.t (.v (.bool false))]) st) ∧
        ∀ i p, rest[i]? = some p → K' (.tup [.t (.v (.bool true)), .t (.v p.1), .t p.2]) { st with cur := setCur st.cur s (.mit m (p :: rest.eraseIdx i)) }
    | _ => False
  | _ => False

def entryW (st : St) (x : LV) (K' : LV → Prop) : Prop :=
  match x with
  | .ptr (.cur s) 0 => match look st.cur s with
    | some (.mit _ (c :: _)) => match keyB c.1 with
      | true => K' (.tup [.t (.v c.1), .t c.2])
      | false => False
    | _ => False
  | _ => False

/-- An own row of numbers is sorted. -/
def sortW (st : St) (x : LV) (K' : St → Prop) : Prop :=
  match x with
  | .t (.sl true _ []) => K' st
  | .osl (.cur s) 1 0 len => match look st.cur s with
    | some (.row e 1 es) => ∃ L : List Int, es = L.map (fun n => [T.v (.int .i64 n)]) ∧ len = L.length ∧ L.length ≤ 1000000000000 ∧
        K' { st with cur := setCur st.cur s (.row e 1 ((L.mergeSort fun x y => decide (x ≤ y)).map fun n => [T.v (.int .i64 n)])) }
    | _ => False
  | _ => False

theorem run_mapNext {P : Program} {n : Nat} (hn : 0 < n) (w : World) : ∃ i d, i < n ∧ (choose (.mapNext n)).run P w = .ok i { w with drawn := d } := by
  unfold choose
  simp only [Sem.run]
  split
  · exact ⟨0, w.drawn, hn, rfl⟩
  · exact ⟨_, _, Nat.mod_lt _ hn, rfl⟩

theorem filter_erase : ∀ (l : List MapEntry) (i : Nat) (e : MapEntry), l.Pairwise (fun m n => m.born < n.born) → l[i]? = some e → l.filter (fun x => !(x.born == e.born)) = l.eraseIdx i
  | [], i, e, _, h => by simp at h
  | x :: r, 0, e, hp, h => by
    simp only [List.getElem?_cons_zero, Option.some.injEq] at h
    subst h
    simp only [List.filter_cons, beq_self_eq_true, Bool.not_true, Bool.false_eq_true, if_false, List.eraseIdx_zero, List.tail_cons]
    refine List.filter_eq_self.2 fun y hy => ?_
    have := (List.pairwise_cons.1 hp).1 y hy
    simp only [Bool.not_eq_true', beq_eq_false_iff_ne, ne_eq]; omega
  | x :: r, i + 1, e, hp, h => by
    simp only [List.getElem?_cons_succ] at h
    have hx := (List.pairwise_cons.1 hp).1 e (List.mem_of_getElem? h)
    simp only [List.filter_cons, List.eraseIdx_cons_succ]
    rw [if_pos (by simp only [Bool.not_eq_true', beq_eq_false_iff_ne, ne_eq]; omega), filter_erase r i e (List.pairwise_cons.1 hp).2 h]
theorem find_born : ∀ (l : List MapEntry) (e : MapEntry), l.Pairwise (fun m n => m.born < n.born) → e ∈ l → l.find? (fun x => x.born == e.born) = some e
  | [], e, _, h => by cases h
  | x :: r, e, hp, h => by
    rcases List.mem_cons.1 h with rfl | h
    · simp
    · have := (List.pairwise_cons.1 hp).1 e h
      rw [List.find?_cons_of_neg (by simp only [beq_iff_eq]; omega)]
      exact find_born r e (List.pairwise_cons.1 hp).2 h

section
variable {C : Ctx} {P : Program} (hC : C.OK P) {E : Ent} {N : Nat} {β : K → Nat} {RO : Nat → Prop} {env : Env} {st : St} {a : Act} {w w' : World}

theorem WR.drew (h : WR E β RO st w) (n : Nat) : WR E β RO st { w with drawn := n } :=
  ⟨h.os, h.tape, h.output, h.size, h.keep, h.roLt, h.ro0, h.roNew, fun k o hk => (h.obj k o hk).keep (fun _ h => h) (fun _ _ => rfl) rfl rfl (fun _ _ _ _ _ hv => hv.mono (w := w) (w' := { w with drawn := n }) (fun _ h => h) (fun _ _ => rfl) (fun _ => True) (fun _ _ => ⟨rfl, fun _ h => h⟩) fun _ _ => trivial)
    (fun _ _ _ _ _ _ _ _ => ⟨rfl, fun _ h => h⟩) fun _ _ _ => ⟨rfl, rfl⟩, h.objNew, h.inj, h.sep, h.fzRO, h.stay⟩


theorem SR.drew (h : SR E N β RO env st a w) (n : Nat) : SR E N β RO env st a { w with drawn := n } := ⟨h.wr.drew _, h.size, h.defers, fun m x hx => by
    obtain ⟨v, g1, g2⟩ := h.env m x hx
    exact ⟨v, g1, g2.mono (w := w) (w' := { w with drawn := n }) (fun _ h => h) (fun _ _ => rfl) (fun _ => True) (fun _ _ => ⟨rfl, fun _ h => h⟩) fun _ _ => trivial⟩⟩

theorem get_setCur {s : Nat} {o o' : Ob} (h : look st.cur s = some o) (ho : ∀ eo e sz rs, o ≠ .grid eo e sz rs) (ho' : ∀ eo e sz rs, o' ≠ .grid eo e sz rs) : ∀ k, St.get { st with cur := setCur st.cur s o' } k = if k = .cur s then some o' else st.get k
  | .cur n => by
    simp only [St.get, look_setCur, K.cur.injEq]
    split
    · rw [h]; rfl
    · rfl
  | .fr i n => by simp [St.get]
  | .sub k i => by
    have ih := get_setCur h ho ho' k
    simp only [St.get, ih]
    by_cases hk : k = .cur s
    · subst hk
      rw [if_pos rfl]
      have h2 : st.get (.cur s) = some o := h
      rw [h2]
      cases o <;> cases o' <;> first
        | exact absurd rfl (ho _ _ _ _)
        | exact absurd rfl (ho' _ _ _ _)
        | simp
    · rw [if_neg hk]; simp

/-- One block of the call's own is written, and memory may be new. -/
theorem WR.writeG {g : Nat} {st' : St} (h : WR E β RO st w) (hs : Step w w') (hg : ∃ k o, st.get k = some o ∧ E.can k ∧ β k = g)
    (hb : ∀ b, b < w.heap.size → b ≠ g → w'.heap[b]? = w.heap[b]?) (hst : ∀ k o', st'.get k = some o' → (∃ o, st.get k = some o) ∧ ObOK β RO w' k o') : WR E β RO st' w' := by
  obtain ⟨k0, o0, hk0, hc0, rfl⟩ := hg
  refine ⟨hs.os.trans h.os, hs.tape.trans h.tape, hs.output.trans h.output, Nat.le_trans h.size hs.size, fun b hlt hnw => ?_, fun b hb' => Nat.lt_of_lt_of_le (h.roLt b hb') hs.size, h.ro0, h.roNew, fun k o' hk => (hst k o' hk).2,
    fun k o' hk hc => ?_, fun k k' o o' hk hk' hc hc' => ?_, fun k o' hk hc => ?_, fun k o' hk hc => ?_, h.stay⟩
  · rw [hb b (Nat.lt_of_lt_of_le hlt h.size) fun e => ?_]
    · exact h.keep b hlt hnw
    · rcases h.objNew k0 o0 hk0 hc0 with h1 | h1
      · exact hnw (e ▸ h1)
      · omega
  · obtain ⟨o, ho⟩ := (hst k o' hk).1; exact h.objNew k o ho hc
  · obtain ⟨p, hp⟩ := (hst k o hk).1
    obtain ⟨q, hq⟩ := (hst k' o' hk').1
    exact h.inj k k' p q hp hq hc hc'
  · obtain ⟨o, ho⟩ := (hst k o' hk).1; exact h.sep k o ho hc
  · obtain ⟨o, ho⟩ := (hst k o' hk).1; exact h.fzRO k o ho hc

/-- What is told of an object of one's own is told anew; the others stand as they stood. -/
theorem SR.setG {s : Nat} {o o' : Ob} (h : SR E N β RO env st a w) (hk : look st.cur s = some o) (ho : ∀ eo e sz rs, o ≠ .grid eo e sz rs) (ho' : ∀ eo e sz rs, o' ≠ .grid eo e sz rs) (hs : Step w w')
    (hb : ∀ b, b < w.heap.size → b ≠ β (.cur s) → w'.heap[b]? = w.heap[b]?) (hc : ∀ b, b < w.heap.size → w'.shape? b = w.shape? b)
    (hob : ObOK β RO w' (.cur s) o') : SR E N β RO env { st with cur := setCur st.cur s o' } a w' := by
  have hks : st.get (.cur s) = some o := hk
  have hro : ∀ b, RO b → w'.heap[b]? = w.heap[b]? := fun b hb' => hb b (h.wr.roLt b hb') fun e => h.wr.sep _ _ hks (can_cur s) (e ▸ hb')
  have hval : ∀ {x : LV} {v : Value}, VL β RO w x v → VL β RO w' x v := fun hv => hv.mono (fun _ h => h) hro (fun _ => True) (fun k _ => ⟨rfl, fun r hr => (hc _ (lt_of_shape hr)).trans hr⟩) fun _ _ => trivial
  refine ⟨h.wr.writeG hs ⟨_, _, hks, can_cur s, rfl⟩ hb fun k o2 hk2 => ?_, h.size, h.defers, fun n x hx => ?_⟩
  · rw [get_setCur hk ho ho'] at hk2
    split at hk2
    · rename_i he
      subst he
      cases hk2
      exact ⟨⟨_, hks⟩, hob⟩
    · rename_i hne
      refine ⟨⟨o2, hk2⟩, ?_⟩
      have hok := h.wr.obj k o2 hk2
      have hbne : β k ≠ β (.cur s) := fun e => by
        by_cases hc' : E.can k
        · exact hne (h.wr.inj k (.cur s) o2 o hk2 hks hc' (can_cur s) e)
        · exact h.wr.sep _ _ hks (can_cur s) (e ▸ h.wr.fzRO k o2 hk2 hc')
      refine hok.keep (fun _ h => h) hro rfl (hb _ hok.lt hbne) (fun cs _ x _ v hv => hval hv) (fun _ _ _ _ _ _ _ _ => ⟨rfl, fun r hr => (hc _ (lt_of_shape hr)).trans hr⟩) fun m left hmit => ?_
      subst hmit
      obtain ⟨_, _, _, _, h2, hr, _⟩ := hok
      exact ⟨rfl, hro _ hr⟩
  · obtain ⟨v, q1, q2⟩ := h.env n x hx
    exact ⟨v, q1, hval q2⟩

/-- The memory grows, and nothing that lay there turns. -/
theorem SR.later (h : SR E N β RO env st a w) (hs : Step w w') (hb : ∀ b, b < w.heap.size → w'.heap[b]? = w.heap[b]?) : SR E N β RO env st a w' := by
  have hro : ∀ b, RO b → w'.heap[b]? = w.heap[b]? := fun b hb' => hb b (h.wr.roLt b hb')
  have hval : ∀ {x : LV} {v : Value}, VL β RO w x v → VL β RO w' x v := fun hv => hv.mono (fun _ h => h) hro (fun _ => True) (fun k _ => ⟨rfl, fun r hr => (shape_of_block (hb _ (lt_of_shape hr))).trans hr⟩) fun _ _ => trivial
  refine ⟨⟨hs.os.trans h.wr.os, hs.tape.trans h.wr.tape, hs.output.trans h.wr.output, Nat.le_trans h.wr.size hs.size, fun b hlt hnw => (hb b (Nat.lt_of_lt_of_le hlt h.wr.size)).trans (h.wr.keep b hlt hnw), fun b hb' => Nat.lt_of_lt_of_le (h.wr.roLt b hb') hs.size, h.wr.ro0, h.wr.roNew, fun k o hk => ?_, h.wr.objNew, h.wr.inj, h.wr.sep, h.wr.fzRO, h.wr.stay⟩, h.size, h.defers, fun n x hx => ?_⟩
  · have hok := h.wr.obj k o hk
    refine hok.keep (fun _ h => h) hro rfl (hb _ hok.lt) (fun cs _ x _ v hv => hval hv) (fun _ _ _ _ _ _ _ _ => ⟨rfl, fun r hr => (shape_of_block (hb _ (lt_of_shape hr))).trans hr⟩) fun m left hm => ?_
    subst hm
    obtain ⟨_, _, _, _, h2, hr, _⟩ := hok
    exact ⟨rfl, hro _ hr⟩
  · obtain ⟨v, q1, q2⟩ := h.env n x hx
    exact ⟨v, q1, hval q2⟩

theorem rangeW_gives {s t : Nat} {x : LV} {v : Value} {K' : LV → Env → St → Prop} (hC : C.OK P) (h : SR E N β RO env st a w) (hx : VL β RO w x v) (hW : rangeW C env st s t x K') : Gives P E N a w (Instr.range t v) K' := by
  unfold rangeW at hW
  split at hW
  rotate_left
  · cases hW
  rename_i kt et s0 b0 z0 ht
  have hu := run_map_ty hC ht
  split at hW
  rotate_left
  · cases hW
  rename_i m
  split at hW
  rotate_left
  · cases hW
  rename_i kd kv hm
  split at hW
  rotate_left
  · cases hW
  rename_i hms hf
  have hms : m ≠ s := Nat.ne_of_beq_eq_false hms
  cases hx
  have hks : st.get (.cur m) = some (.mp kd kv) := hm
  obtain ⟨ents, clock, h1, h2, h3, h4, h5, h6⟩ := h.wr.obj _ _ hks
  have hz := h.freeze hm
  obtain ⟨f1, f2⟩ := hz.fresh hf
  refine ⟨.pointer (some ⟨w.heap.size, 0, none⟩), w.alloc (.mapIter (some (β (.cur m))) clock #[] clock), _, _, _, fun k => if k = .cur s then w.heap.size else β k, fun b => RO b ∨ b = β (.cur m), ?_, hW, ?_, ?_⟩
  · simp only [Instr.range, Sem.run_bind, run_underlying hu, Result.andThen_ok, MapKept.run_getObj_map h1, Sem.run_pure]
    simp [newObj, Sem.run]
  · refine hz.alloc f1 f2 (Step.alloc _ _) (by rw [alloc_size]; omega) (alloc_old _ _) ?_ ?_
    · intro i o ho
      obtain ⟨_, _, _, _, _, hg, _⟩ := St.get_sub ho
      simp only [St.get, look_cons, if_true] at hg
      cases hg
    · have hmlt : β (.cur m) < w.heap.size := lt_of_heap h1
      have e : (if K.cur m = K.cur s then w.heap.size else β (.cur m)) = β (.cur m) := if_neg fun e => hms (by cases e; rfl)
      have hff : (ents.toList.filter fun e => !(#[] : Array Nat).contains e.born) = ents.toList := List.filter_eq_self.2 fun _ _ => by simp
      refine ⟨#[], ents, clock, ?_, ?_, ?_, ?_, ?_, _, _, rfl, ?_, ?_, ?_⟩
      · simp only [if_true, e]; exact alloc_new _ _
      · simp only [e]; rw [alloc_old _ _ _ hmlt]; exact h1
      · show RO _ ∨ _ = _; exact .inr e
      · intro q hq; exact h6 q (by simpa using hq)
      · exact List.pairwise_iff_getElem.2 fun i j hi hj hij => h5 i j _ _ (by simp at hi; simp [hi]) (by simp at hj; simp [hj]) hij
      · rw [hff]; simpa using h2
      · intro i p q hp hq
        rw [hff] at hq
        have hq' : ents[i]? = some q := by simpa using hq
        obtain ⟨g1, g2⟩ := h4 i p q hp hq'
        refine ⟨g1, ?_, g2.mono (fun b hb => .inl hb) fun b hb => alloc_old _ _ _ (h.wr.roLt b hb)⟩
        have := h3 p (List.mem_of_getElem? hp)
        revert this
        cases kd <;> cases p.1 <;> simp [keyOK, Value.oneCell']
      · intro hb; cases hb
  · have := VL.ptr (β := fun k => if k = .cur s then w.heap.size else β k) (RO := fun b => RO b ∨ b = β (.cur m)) (w := w.alloc (.mapIter (some (β (.cur m))) clock #[] clock)) (.cur s) 0
    simpa using this

theorem run_getObj_iter {r : Nat} {m : Option Nat} {c c' : Nat} {seen : Array Nat} (hb : w.heap[r]? = some (.mapIter m c seen c')) : (getObj r).run P w = .ok (.mapIter m c seen c') w := by
  simp [getObj, Sem.run, hb]
theorem run_setObj_iter {r : Nat} {m : Option Nat} {c c' : Nat} {seen : Array Nat} (o : Obj) (hb : w.heap[r]? = some (.mapIter m c seen c')) : (setObj r o).run P w = .ok () { w with heap := w.heap.setIfInBounds r o } := by
  simp [setObj, Sem.run, hb]

theorem nextW_gives {t : Nat} {x : LV} {v : Value} {K' : LV → St → Prop} (h : SR E N β RO env st a w) (hx : VL β RO w x v) (hW : nextW st x K') : Gives P E N a w (Instr.next v false t) fun x env' st' => env' = env ∧ K' x st' := by
  unfold nextW at hW
  split at hW
  rotate_left
  · cases hW
  rename_i s
  split at hW
  rotate_left
  · cases hW
  rename_i m c0 rest hm
  obtain ⟨hW0, hW1⟩ := hW
  cases hx
  have hks : st.get (.cur s) = some (.mit m (c0 :: rest)) := hm
  obtain ⟨seen, ents, clock, h1, h2, hro, hb, hp, c, r, he, hl, h5, h6⟩ := h.wr.obj _ _ hks
  cases he
  have hnone : (ents.all fun x => decide (x.born ≥ clock)) = ents.isEmpty := by
    by_cases hz : ents.isEmpty
    · have : ents = #[] := by simpa using hz
      subst this; simp
    · have hpos : 0 < ents.size := by
        rcases Nat.eq_zero_or_pos ents.size with hz' | hz'
        · exact absurd (by simpa using Array.eq_empty_of_size_eq_zero hz') hz
        · exact hz'
      have hx0 := hb ents[0] (by simp)
      have : (ents.all fun x => decide (x.born ≥ clock)) = false := by
        rw [Array.all_eq_false]
        exact ⟨0, hpos, by simp; omega⟩
      rw [this]; simpa using hz
  have hold : ((ents.filter fun e => !seen.contains e.born).filter fun e => decide (e.born < clock)) = ents.filter fun e => !seen.contains e.born := by
    rw [← Array.toList_inj]
    simp only [Array.toList_filter]
    refine List.filter_eq_self.2 fun y hy => ?_
    simpa using hb y (List.mem_filter.1 hy).1
  have hnew : ((ents.filter fun e => !seen.contains e.born).filter fun e => decide (e.born ≥ clock)) = #[] := by
    rw [← Array.toList_inj]
    simp only [Array.toList_filter]
    refine List.filter_eq_nil_iff.2 fun y hy => ?_
    have := hb y (List.mem_filter.1 hy).1
    simp; omega
  have hcond : (!seen.isEmpty && !ents.isEmpty && (ents.all fun x => decide (x.born ≥ clock))) = false := by
    rw [hnone]; cases ents.isEmpty <;> simp
  generalize hL : (ents.filter fun e => !seen.contains e.born) = L at hold hnew
  have hLl : L.toList = ents.toList.filter fun e => !seen.contains e.born := by rw [← hL]; simp
  rw [← hLl] at hl h5
  by_cases hz : L.isEmpty = true
  · have hLe : L = #[] := by simpa using hz
    have hr : rest = [] := List.eq_nil_of_length_eq_zero (by rw [← hl, hLe]; rfl)
    refine ⟨.tuple #[.bool false], w, _, env, st, β, RO, ?_, ⟨rfl, hW0 hr⟩, h, .tup [.t (.v (.bool false))] [.bool false] rfl fun i x v hx hv => ?_⟩
    · simp only [Instr.next, Sem.run_bind, run_getObj_iter h1, Result.andThen_ok, MapKept.run_getObj_map h2, hcond, Bool.false_eq_true, if_false, hL, hold, hnew, hz, if_true]
      rw [hLe]
      simp [choose, Sem.run, Question.forced]
    · cases i with
      | zero => simp at hx hv; subst hx; subst hv; exact .t _ _ (.v _ rfl)
      | succ i => simp at hx
  · have hz : L.isEmpty = false := by simpa using hz
    have hpos : 0 < L.size := by
      rcases Nat.eq_zero_or_pos L.size with hz' | hz'
      · rw [Array.eq_empty_of_size_eq_zero hz'] at hz; cases hz
      · exact hz'
    obtain ⟨i, d, hi, hch⟩ := run_mapNext (P := P) hpos w
    have hLi : L.toList[i]? = some L[i] := by simp [hi]
    have hil : i < rest.length := by rw [← hl]; simpa using hi
    have hri : rest[i]? = some rest[i] := List.getElem?_eq_getElem hil
    obtain ⟨g1, g2, g3⟩ := h5 i _ _ hri hLi
    have hmemL : L[i] ∈ ents.toList.filter fun e => !seen.contains e.born := by rw [← hLl]; exact List.mem_of_getElem? hLi
    have hmem := (List.mem_filter.1 hmemL).1
    have hpL : L.toList.Pairwise fun m n => m.born < n.born := by rw [hLl]; exact hp.filter _
    have hd := h.drew d
    refine ⟨.tuple #[.bool true, L[i].key, L[i].val], { w with drawn := d, heap := w.heap.setIfInBounds (β (.cur s)) (.mapIter (some (β m)) clock (seen.push L[i].born) clock) }, _, env, _, β, RO, ?_, ⟨rfl, hW1 i _ hri⟩, ?_, ?_⟩
    · simp only [Instr.next, Sem.run_bind, run_getObj_iter h1, Result.andThen_ok, MapKept.run_getObj_map h2, hcond, Bool.false_eq_true, if_false, hL, hold, hnew, hz]
      have hsz : ((#[] : Array (Option MapEntry)) ++ (L ++ #[]).map some).size = L.size := by simp
      rw [hsz, hch]
      simp only [Result.andThen_ok]
      have hgi : ((#[] : Array (Option MapEntry)) ++ (L ++ #[]).map some)[i]? = some (some L[i]) := by simp [hi]
      simp only [hgi, Sem.run_bind, run_setObj_iter (w := { w with drawn := d }) _ h1, Result.andThen_ok, Sem.run_pure]
    · have hne : β m ≠ β (.cur s) := fun e => by rw [e, h1] at h2; cases h2
      have hset := MapKept.heap_set (w := w) (o' := .mapIter (some (β m)) clock (seen.push L[i].born) clock) h1
      refine hd.setG hm (fun _ _ _ _ e => by cases e) (fun _ _ _ _ e => by cases e) (w' := { w with drawn := d, heap := w.heap.setIfInBounds (β (.cur s)) (.mapIter (some (β m)) clock (seen.push L[i].born) clock) }) ⟨rfl, rfl, rfl, by simp⟩ (fun b _ hb => hset.2 b hb) (fun b _ => ?_) ?_
      · by_cases hb : b = β (.cur s)
        · subst hb
          unfold World.shape?
          rw [show ({ w with drawn := d, heap := w.heap.setIfInBounds (β (.cur s)) (.mapIter (some (β m)) clock (seen.push L[i].born) clock) } : World).heap[β (.cur s)]? = _ from hset.1, show ({ w with drawn := d } : World).heap[β (.cur s)]? = _ from h1]
        · exact shape_of_block (hset.2 b hb)
      · have hmono : ∀ {x : T} {v : Value}, VT RO w x v → VT RO { w with drawn := d, heap := w.heap.setIfInBounds (β (.cur s)) (.mapIter (some (β m)) clock (seen.push L[i].born) clock) } x v := fun hv => hv.mono (fun _ h => h) fun b hb => hset.2 b fun e => h.wr.sep _ _ hks (can_cur s) (e ▸ hb)
        have hun : (ents.toList.filter fun e => !(seen.push L[i].born).contains e.born) = L.toList.eraseIdx i := by
          rw [← filter_erase L.toList i L[i] hpL hLi, hLl, List.filter_filter]
          refine List.filter_congr fun y _ => ?_
          rw [Array.contains_push, Bool.not_or, Bool.and_comm]
        refine ⟨seen.push L[i].born, ents, clock, hset.1, (hset.2 _ hne).trans h2, hro, hb, hp, _, _, rfl, ?_, ?_, fun _ => ⟨L[i].born, L[i], by simp, ?_, g1, g2, hmono g3⟩⟩
        · rw [hun, List.length_eraseIdx_of_lt (by simpa using hi), List.length_eraseIdx_of_lt hil, hl]
        · intro j q e hq he
          rw [hun, List.getElem?_eraseIdx] at he
          rw [List.getElem?_eraseIdx] at hq
          split at he
          · rename_i hji
            rw [if_pos hji] at hq
            obtain ⟨k1, k2, k3⟩ := h5 j q e hq he
            exact ⟨k1, k2, hmono k3⟩
          · rename_i hji
            rw [if_neg hji] at hq
            obtain ⟨k1, k2, k3⟩ := h5 (j + 1) q e hq he
            exact ⟨k1, k2, hmono k3⟩
        · rw [← Array.find?_toList]; exact find_born _ _ hp hmem
    · refine .tup [.t (.v (.bool true)), .t (.v rest[i].1), .t rest[i].2] [.bool true, L[i].key, L[i].val] rfl fun j x v hx hv => ?_
      match j, hx, hv with
      | 0, hx, hv => simp at hx hv; subst hx; subst hv; exact .t _ _ (.v _ rfl)
      | 1, hx, hv => simp at hx hv; subst hx; subst hv; rw [g1]; exact .t _ _ (.v _ g2)
      | 2, hx, hv =>
        simp at hx hv; subst hx; subst hv
        exact .t _ _ (g3.mono (fun _ h => h) fun b hb => (MapKept.heap_set (w := w) (o' := .mapIter (some (β m)) clock (seen.push L[i].born) clock) h1).2 b fun e => h.wr.sep _ _ hks (can_cur s) (e ▸ hb))
      | j + 3, hx, _ => simp at hx

theorem entryW_gives {x : LV} {v : Value} {K' : LV → Prop} (h : SR E N β RO env st a w) (hx : VL β RO w x v) (hW : entryW st x K') : ∃ u y, (Instr.entry v).run P w = .ok u w ∧ K' y ∧ VL β RO w y u := by
  unfold entryW at hW
  split at hW
  rotate_left
  · cases hW
  rename_i s
  split at hW
  rotate_left
  · cases hW
  rename_i m c0 rest hm
  split at hW
  rotate_left
  · cases hW
  rename_i hkb
  cases hx
  have hks : st.get (.cur s) = some (.mit m (c0 :: rest)) := hm
  obtain ⟨seen, ents, clock, h1, h2, hro, hb, hp, c, r, he, hl, h5, h6⟩ := h.wr.obj _ _ hks
  cases he
  obtain ⟨stamp, e, g1, g2, g3, g4, g5⟩ := h6 hkb
  refine ⟨.tuple #[e.key, e.val], _, ?_, hW, .tup [.t (.v c0.1), .t c0.2] [e.key, e.val] rfl fun i x v hx hv => ?_⟩
  · simp only [Instr.entry, Sem.run_bind, run_getObj_iter h1, Result.andThen_ok, g1, MapKept.run_getObj_map h2]
    simp [g2]
  · match i, hx, hv with
    | 0, hx, hv => simp at hx hv; subst hx; subst hv; rw [g3]; exact .t _ _ (.v _ g4)
    | 1, hx, hv => simp at hx hv; subst hx; subst hv; exact .t _ _ g5
    | i + 2, hx, _ => simp at hx

theorem sortW_gives {f : Nat} {x : LV} {v : Value} {K' : St → Prop} (hS : SortOK P f) (h : SR E N β RO env st a w) (hx : VL β RO w x v) (hW : sortW st x K') :
    Calls P f #[v] w fun e w' => e = .returned undef ∧ ∃ st', K' st' ∧ SR E N β RO env st' a w' := by
  unfold sortW at hW
  split at hW
  · cases hx with
    | t _ _ hx =>
    have hv : v = .slice none 0 0 ∨ ∃ p c, v = .slice (some p) 0 c := by
      cases hx with
      | nil => exact .inl rfl
    obtain rfl | ⟨p, c, rfl⟩ := hv
    · refine (hS.2.1 w).mono ?_
      rintro e w' ⟨rfl, h1, h2, h3, h4, h5⟩
      exact ⟨rfl, st, hW, h.later ⟨h1, h2, h3, h4⟩ h5⟩
    · cases hx
  · rename_i s len
    split at hW
    rotate_left
    · cases hW
    rename_i e0 es hs
    obtain ⟨L, rfl, rfl, hL, hK⟩ := hW
    cases hx with
    | osl _ _ _ _ cap e n hle hsh hn hm =>
    have hks : st.get (.cur s) = some (.row e0 1 (L.map fun n => [T.v (.int .i64 n)])) := hs
    obtain ⟨us, cap2, ⟨hl1, hown⟩, hf1, hf2⟩ := h.wr.obj _ _ hks
    rcases hown with ⟨h1, h2⟩ | ⟨g, cap3, cur, hv, _, hh, hc1, hc2, hc3, hc4⟩
    · cases h1
    cases hv
    simp only [List.length_map, Nat.mul_one] at hf1 hc3 hc4 hl1
    have hus : us = L.map (Value.int .i64) := by
      refine List.ext_getElem? fun i => ?_
      rw [List.getElem?_map]
      cases hi : L[i]? with
      | none =>
        have := List.getElem?_eq_none_iff.1 hi
        simp only [Option.map_none]
        exact List.getElem?_eq_none (by omega)
      | some z =>
        obtain ⟨_, g2⟩ := hf2 i [T.v (.int .i64 z)] (by rw [List.getElem?_map, hi]; rfl)
        obtain ⟨u, g3, g4⟩ := g2 0 (.v (.int .i64 z)) rfl
        rw [Nat.mul_one, Nat.add_zero] at g3
        rw [g3]; cases g4; rfl
    rw [hus] at hc4
    refine (hS.2.2 w (β (.cur s)) cap e0 L cur hh hc4 hL).mono ?_
    rintro e w' ⟨rfl, h1, h2, h3, h4, h5, cur', h6, h7, h8⟩
    refine ⟨rfl, _, hK, h.setG hs (fun _ _ _ _ e => by cases e) (fun _ _ _ _ e => by cases e) ⟨h1, h2, h3, h4⟩ h5 (fun b hb => ?_) ?_⟩
    · by_cases hbs : b = β (.cur s)
      · subst hbs
        unfold World.shape?
        rw [h6, hh]
        simp [h7]
      · exact shape_of_block (h5 b hb hbs)
    · have hlen : (L.mergeSort fun x y => decide (x ≤ y)).length = L.length := List.length_mergeSort ..
      refine ⟨(L.mergeSort fun x y => decide (x ≤ y)).map (Value.int .i64), cap2, ⟨by simp, .inr ⟨_, cap2, cur', rfl, Nat.zero_le _, h6, ?_, hc2, ?_, ?_⟩⟩, by simp, fun i el hi => ?_⟩
      · simpa using hc1
      · rw [h7]; simpa using hc3
      · simp only [List.length_map, Nat.mul_one, hlen]; exact h8
      · rw [List.getElem?_map] at hi
        cases hz : (L.mergeSort fun x y => decide (x ≤ y))[i]? with
        | none => rw [hz] at hi; cases hi
        | some z =>
          rw [hz] at hi
          cases hi
          refine ⟨rfl, fun j x hj => ?_⟩
          cases j with
          | zero =>
            cases hj
            exact ⟨.int .i64 z, by rw [Nat.mul_one, Nat.add_zero, List.getElem?_map, hz]; rfl, .v _ rfl⟩
          | succ j => simp at hj
  · cases hW

end
end Go.Fw

/- The value logic, part 17s: append to a row that shows less than it has; append to a row of a row of rows. -/
namespace Go.Fw
open Go

/-- What is known of slots when a row leaves its row of rows: what may be the row is let go, or stays under its old name. -/
def detE (C : Ctx) (q i : Nat) (env : Env) : Env := match C.exa with
  | true => env
  | false => purgeE (.sub (.cur q) i) env
def appTW (C : Ctx) (env : Env) (st : St) (s t : Nat) (x y : LV) (K' : LV → Env → St → Prop) : Prop :=
  match x with
  | .osl (.sub (.cur q) i) sz1 0 len => match C.ty t with
    | some ⟨.slice e, _, _, _⟩ => match C.ty e with
      | some te => match te.size with
        | 0 => False
        | sz + 1 => srcW st (sz + 1) y fun xs => match look st.cur q with
          | some (.grid eo e' sz2 rs) => match Nat.beq e' e, Nat.beq sz1 (sz + 1), Nat.beq sz2 (sz + 1), freshB env st.cur s, Nat.beq s q with
            | true, true, true, true, false => ∃ es, rs[i]? = some (.row es) ∧ len = es.length ∧ (es ++ xs).length * te.bytes ≤ 140737488355328 ∧ (es ++ xs).length ≤ 140737488355328 ∧
                K' (.osl (.cur s) (sz + 1) 0 (es ++ xs).length) (purgeE (.cur s) (detE C q i env))
                  ((St.mk st.out (purgeC (.cur s) ((s, .row e (sz + 1) es) :: setCur (purgeC (.sub (.cur q) i) st.cur) q (.grid eo e (sz + 1) (rs.set i .out))))).set (.cur s) (.row e (sz + 1) (es ++ xs)))
            | _, _, _, _, _ => False
          | _ => False
      | none => False
    | _ => False
  | .osl (.cur q) sz1 0 len => match C.slz with
    | false => appW C env st s t x y K'
    | true => match C.ty t with
      | some ⟨.slice e, _, _, _⟩ => match C.ty e with
        | some te => match te.size with
          | 0 => False
          | sz + 1 => srcW st (sz + 1) y fun xs => match look st.cur q with
            | some (.row e' sz2 es) => match Nat.beq e' e, Nat.beq sz1 (sz + 1), Nat.beq sz2 (sz + 1) with
              | true, true, true => len ≤ es.length ∧ (es.take len ++ xs).length * te.bytes ≤ 140737488355328 ∧ (es.take len ++ xs).length ≤ 140737488355328 ∧
                  K' (.osl (.cur q) (sz + 1) 0 (es.take len ++ xs).length) (purgeE (.cur q) env) ((st.purge (.cur q)).set (.cur q) (.row e (sz + 1) (es.take len ++ xs)))
              | _, _, _ => False
            | _ => False
        | none => False
      | _ => False
  | x => appW C env st s t x y K'

section
variable {C : Ctx} {P : Program} (hC : C.OK P) {E : Ent} {N : Nat} {β : K → Nat} {RO : Nat → Prop} {env : Env} {st : St} {a : Act} {w w' : World}

/-- Less is told of an object. -/
theorem SR.trunc (h : SR E N β RO env st a w) {q e sz n : Nat} {es : List (List T)} (hk : look st.cur q = some (.row e sz es)) : SR E N β RO env { st with cur := setCur st.cur q (.row e sz (es.take n)) } a w := by
  have hg := St.get_set_plain (st := st) (r := .cur q) rfl (o := .row e sz es) (o' := .row e sz (es.take n)) hk (fun _ _ _ _ e => by cases e) (fun _ _ _ _ e => by cases e) (fun _ _ e => by cases e)
  have hst : St.set st (.cur q) (.row e sz (es.take n)) = { st with cur := setCur st.cur q (.row e sz (es.take n)) } := rfl
  rw [hst] at hg
  have hsub : ∀ k o, St.get { st with cur := setCur st.cur q (.row e sz (es.take n)) } k = some o → ∃ o0, st.get k = some o0 := fun k o ho => by
    rw [hg] at ho
    split at ho
    · rename_i he; subst he; exact ⟨_, hk⟩
    · exact ⟨o, ho⟩
  refine ⟨⟨h.wr.os, h.wr.tape, h.wr.output, h.wr.size, h.wr.keep, h.wr.roLt, h.wr.ro0, h.wr.roNew, fun k o ho => ?_, fun k o ho hc => ?_, fun k k' o o' h1 h2 hc hc' he => ?_, fun k o ho hc => ?_, fun k o ho hc => ?_, h.wr.stay⟩, h.size, h.defers, h.env⟩
  · rw [hg] at ho
    split at ho
    · rename_i he
      subst he
      cases ho
      obtain ⟨us, cap, cur, hh, hnc, hcm, hcs, htk, hul, hf⟩ := row_block (h.wr.obj (.cur q) _ hk)
      have hlen : (es.take n).length ≤ es.length := by simp; omega
      have hle : (es.take n).length * sz ≤ es.length * sz := Nat.mul_le_mul_right _ hlen
      have hel : ∀ (i : Nat) (el : List T), (es.take n)[i]? = some el → es[i]? = some el := fun i el hi => by
        rw [List.getElem?_take] at hi
        split at hi
        · exact hi
        · cases hi
      refine ⟨us.take ((es.take n).length * sz), cap, ⟨by rw [List.length_take]; omega, .inr ⟨β (.cur q), cap, cur, rfl, Nat.zero_le _, hh, by omega, hcm, hcs, ?_⟩⟩, by rw [List.length_take]; omega, fun i el hi => ⟨(hf.2 i el (hel i el hi)).1, fun j x hj => ?_⟩⟩
      · rw [← htk, List.take_take, Nat.min_eq_left hle]
      · obtain ⟨u, h1, h2⟩ := (hf.2 i el (hel i el hi)).2 j x hj
        refine ⟨u, ?_, h2⟩
        have hil := (List.getElem?_eq_some_iff.1 hi).1
        have hjl : j < sz := (hf.2 i el (hel i el hi)).1 ▸ (List.getElem?_eq_some_iff.1 hj).1
        have := Nat.mul_le_mul_right sz (show i + 1 ≤ (es.take n).length from hil)
        rw [Nat.add_mul] at this
        rw [List.getElem?_take, if_pos (by omega)]; exact h1
    · exact h.wr.obj k o ho
  · obtain ⟨o0, h0⟩ := hsub k o ho; exact h.wr.objNew k o0 h0 hc
  · obtain ⟨p, hp⟩ := hsub k o h1
    obtain ⟨q, hq⟩ := hsub k' o' h2
    exact h.wr.inj k k' p q hp hq hc hc' he
  · obtain ⟨o0, h0⟩ := hsub k o ho; exact h.wr.sep k o0 h0 hc
  · obtain ⟨o0, h0⟩ := hsub k o ho; exact h.wr.fzRO k o0 h0 hc

/-- The own rows of a grid, one of them told by itself. -/
theorem get_detach {s q i : Nat} {eo : GO} {e sz : Nat} {rs : List GR} {es : List (List T)} (hk : look st.cur q = some (.grid eo e sz rs)) (hne : s ≠ q) {k : K} {o : Ob}
    (h : St.get { st with cur := (s, .row e sz es) :: setCur (purgeC (.sub (.cur q) i) st.cur) q (.grid eo e sz (rs.set i .out)) } k = some o) :
    (k = .cur s ∧ o = .row e sz es) ∨ (k = .cur q ∧ o = .grid eo e sz (rs.set i .out)) ∨
      (k ≠ .cur s ∧ k ≠ .cur q ∧ k ≠ .sub (.cur q) i ∧ ∃ o0, st.get k = some o0 ∧ (o = purgeO (.sub (.cur q) i) o0 ∨ (k.isCur = false ∧ o = o0))) := by
  have hcur : ∀ n o, St.get { st with cur := (s, .row e sz es) :: setCur (purgeC (.sub (.cur q) i) st.cur) q (.grid eo e sz (rs.set i .out)) } (.cur n) = some o →
      (n = s ∧ o = .row e sz es) ∨ (n ≠ s ∧ n = q ∧ o = .grid eo e sz (rs.set i .out)) ∨ (n ≠ s ∧ n ≠ q ∧ ∃ o0, look st.cur n = some o0 ∧ o = purgeO (.sub (.cur q) i) o0) := by
    intro n o h
    simp only [St.get, look_cons, look_setCur, look_purgeC] at h
    split at h
    · rename_i he; cases h; exact .inl ⟨he.symm, rfl⟩
    · rename_i he
      split at h
      · rename_i hq
        subst hq
        rw [hk] at h
        simp only [Option.map_some, Option.some.injEq] at h
        exact .inr (.inl ⟨Ne.symm he, rfl, h.symm⟩)
      · rename_i hq
        cases hl : look st.cur n with
        | none => simp [hl] at h
        | some o0 => simp [hl] at h; exact .inr (.inr ⟨Ne.symm he, hq, o0, rfl, h.symm⟩)
  cases k with
  | cur n =>
    rcases hcur n o h with ⟨rfl, h1⟩ | ⟨h1, rfl, h2⟩ | ⟨h1, h2, o0, h3, h4⟩
    · exact .inl ⟨rfl, h1⟩
    · exact .inr (.inl ⟨rfl, h2⟩)
    · exact .inr (.inr ⟨fun e => h1 (by cases e; rfl), fun e => h2 (by cases e; rfl), (fun e => by cases e), o0, h3, .inl h4⟩)
  | fr j n => exact .inr (.inr ⟨(fun e => by cases e), (fun e => by cases e), (fun e => by cases e), o, h, .inr ⟨rfl, rfl⟩⟩)
  | sub k j =>
    obtain ⟨eo', e', sz', rs', es', hg, hj, rfl⟩ := St.get_sub h
    cases k with
    | cur n =>
      rcases hcur n _ hg with ⟨_, h1⟩ | ⟨_, rfl, h2⟩ | ⟨_, h2, o0, h3, h4⟩
      · cases h1
      · cases h2
        by_cases hji : j = i
        · subst hji
          rw [List.getElem?_set] at hj
          split at hj
          · split at hj
            · cases hj
            · cases hj
          · rename_i hn; exact absurd rfl hn
        · rw [List.getElem?_set_ne (Ne.symm hji)] at hj
          refine .inr (.inr ⟨(fun e => by cases e), (fun e => by cases e), fun e => hji (by cases e; rfl), .row e sz es', ?_, .inr ⟨rfl, rfl⟩⟩)
          simp only [St.get, hk, hj]
      · have := purgeO_grid h4.symm
        subst this
        refine .inr (.inr ⟨(fun e => by cases e), (fun e => by cases e), fun e => h2 (by cases e; rfl), .row e' sz' es', ?_, .inr ⟨rfl, rfl⟩⟩)
        simp only [St.get, h3, hj]
    | fr p n =>
      have hg' : st.get (.fr p n) = some (.grid eo' e' sz' rs') := hg
      refine .inr (.inr ⟨(fun e => by cases e), (fun e => by cases e), (fun e => by cases e), .row e' sz' es', ?_, .inr ⟨rfl, rfl⟩⟩)
      simp only [St.get] at hg' ⊢
      simp only [hg', hj]
    | sub k2 p => have := St.root_of_get_grid hg; cases this

theorem SR.detach (h : SR E N β RO env st a w) {s q i : Nat} {eo : GO} {e sz : Nat} {rs : List GR} {es : List (List T)} (hk : look st.cur q = some (.grid eo e sz rs)) (hi : rs[i]? = some (.row es)) (hf : freshB env st.cur s = true) (hne : s ≠ q) :
    SR E N (fun k => if k = .cur s then β (.sub (.cur q) i) else β k) RO (purgeE (.sub (.cur q) i) env) { st with cur := (s, .row e sz es) :: setCur (purgeC (.sub (.cur q) i) st.cur) q (.grid eo e sz (rs.set i .out)) } a w := by
  obtain ⟨hfo, hfe⟩ := h.fresh hf
  have hkg : st.get (.cur q) = some (.grid eo e sz rs) := hk
  have hks : st.get (.sub (.cur q) i) = some (.row e sz es) := by simp only [St.get, hk, hi]
  have hβ : ∀ k, k ≠ .cur s → (fun k => if k = .cur s then β (.sub (.cur q) i) else β k) k = β k := fun k hk => if_neg hk
  have hcS := can_sub (E := E) q i
  have hval : ∀ {x : LV} {v : Value}, x.has (.cur s) = false → VL β RO w x v → VL (fun k => if k = .cur s then β (.sub (.cur q) i) else β k) RO w x v := fun hx hv => hv.no hx
  have hub : ∀ {k0 k1 : K} {x : LV}, x.has k1 = false → (purgeV k0 x).has k1 = false := fun h => purgeV_has h
  refine ⟨⟨h.wr.os, h.wr.tape, h.wr.output, h.wr.size, h.wr.keep, h.wr.roLt, h.wr.ro0, h.wr.roNew, fun k o ho => ?_, fun k o ho hc => ?_, fun k k' o o' h1 h2 hc hc' he => ?_, fun k o ho hc => ?_, fun k o ho hc => ?_, fun k hf hnm => ?_⟩, h.size, h.defers, fun n x hx => ?_⟩
  · rcases get_detach hk hne ho with ⟨rfl, rfl⟩ | ⟨rfl, rfl⟩ | ⟨h1, h2, h3, o0, h4, h5⟩
    · have := h.wr.obj _ _ hks
      obtain ⟨us, cap, g1, g2⟩ := this
      exact ⟨us, cap, by simpa using g1, g2⟩
    · refine (h.wr.obj _ _ hkg).gridTo (by rw [if_neg (fun e => hne (by cases e; rfl))]) (by simp) fun j r r' u hr hj hv => ?_
      rw [List.getElem?_set] at hj
      split at hj
      · split at hj
        · cases hj; trivial
        · cases hj
      · rw [hr] at hj
        cases hj
        cases r with
        | nil => exact hv
        | out => trivial
        | row es' =>
          simp only [GrV] at hv ⊢
          refine hval ?_ hv
          simp only [LV.has, K.under, K.beq]
          rw [Bool.eq_false_iff]; intro hb
          have := Nat.eq_of_beq_eq_true (by simpa using hb)
          exact hne this
    · have hok := h.wr.obj k o0 h4
      have hhas : o0.has (.cur s) = false := hfo k o0 h4
      have keep : ∀ o1, ObOK β RO w k o1 → o1.has (.cur s) = false → ObOK (fun k => if k = .cur s then β (.sub (.cur q) i) else β k) RO w k o1 := by
        intro o1 hok1 hh1
        refine hok1.keep (fun _ h => h) (fun _ _ => rfl) (hβ k h1) rfl (fun cs hcs x hx u hu => ?_) (fun eo' e' sz' rs' ho1 j es' hj => ⟨hβ _ (fun e => by cases e), fun _ h => h⟩) fun m l ho1 => ⟨hβ _ ?_, rfl⟩
        · subst hcs
          exact hval (hasL_mem hh1 x hx) hu
        · rintro rfl
          subst ho1
          simp only [Ob.has, K.under_self] at hh1
          cases hh1
      rcases h5 with rfl | ⟨_, rfl⟩
      · exact keep _ hok.purge (purgeO_has hhas)
      · exact keep _ hok hhas
  · rcases get_detach hk hne ho with ⟨rfl, rfl⟩ | ⟨rfl, rfl⟩ | ⟨h1, h2, h3, o0, h4, h5⟩
    · simp only [if_true]; exact h.wr.objNew _ _ hks hcS
    · rw [if_neg (fun e => hne (by cases e; rfl))]; exact h.wr.objNew _ _ hkg hc
    · rw [if_neg h1]; exact h.wr.objNew k o0 h4 hc
  · have key : ∀ {k o}, St.get { st with cur := (s, .row e sz es) :: setCur (purgeC (.sub (.cur q) i) st.cur) q (.grid eo e sz (rs.set i .out)) } k = some o → ∃ k1 o1, st.get k1 = some o1 ∧ (if k = .cur s then β (.sub (.cur q) i) else β k) = β k1 ∧ (k1 = k ∧ k ≠ .cur s ∧ k ≠ .sub (.cur q) i ∨ k1 = .sub (.cur q) i ∧ k = .cur s) := by
      intro k o hg
      rcases get_detach hk hne hg with ⟨rfl, rfl⟩ | ⟨rfl, rfl⟩ | ⟨h1, h2, h3, o0, h4, h5⟩
      · exact ⟨_, _, hks, if_pos rfl, .inr ⟨rfl, rfl⟩⟩
      · exact ⟨_, _, hkg, if_neg (fun e => hne (by cases e; rfl)), .inl ⟨rfl, (fun e => hne (by cases e; rfl)), (fun e => by cases e)⟩⟩
      · exact ⟨_, _, h4, if_neg h1, .inl ⟨rfl, h1, h3⟩⟩
    obtain ⟨k1, o1, g1, g2, g3⟩ := key h1
    obtain ⟨k2, o2, f1, f2, f3⟩ := key h2
    have hkk : E.can k1 ∧ E.can k2 := by
      constructor
      · rcases g3 with ⟨rfl, _⟩ | ⟨rfl, _⟩
        · exact hc
        · exact hcS
      · rcases f3 with ⟨rfl, _⟩ | ⟨rfl, _⟩
        · exact hc'
        · exact hcS
    have e12 : k1 = k2 := h.wr.inj k1 k2 o1 o2 g1 f1 hkk.1 hkk.2 (by rw [← g2, ← f2]; exact he)
    rcases g3 with ⟨rfl, g4, g5⟩ | ⟨rfl, rfl⟩ <;> rcases f3 with ⟨rfl, f4, f5⟩ | ⟨rfl, rfl⟩
    · exact e12
    · exact absurd e12 g5
    · exact absurd e12.symm f5
    · rfl
  · rcases get_detach hk hne ho with ⟨rfl, rfl⟩ | ⟨rfl, rfl⟩ | ⟨h1, h2, h3, o0, h4, h5⟩
    · simp only [if_true]; exact h.wr.sep _ _ hks hcS
    · rw [if_neg (fun e => hne (by cases e; rfl))]; exact h.wr.sep _ _ hkg hc
    · rw [if_neg h1]; exact h.wr.sep k o0 h4 hc
  · rcases get_detach hk hne ho with ⟨rfl, rfl⟩ | ⟨rfl, rfl⟩ | ⟨h1, h2, h3, o0, h4, h5⟩
    · exact absurd (can_cur s) hc
    · exact absurd (can_cur q) hc
    · rw [if_neg h1]; exact h.wr.fzRO k o0 h4 hc
  · rw [if_neg fun e => by subst e; cases hf]; exact h.wr.stay k hf hnm
  · rw [look_purgeE] at hx
    cases hy : look env n with
    | none => simp [hy] at hx
    | some y =>
      simp [hy] at hx
      obtain ⟨u, g1, g2⟩ := h.env n y hy
      refine ⟨u, g1, ?_⟩
      rw [← hx]
      exact hval (hub (hfe n y hy)) g2.purge

theorem SR.detachE (C : Ctx) (h : SR E N β RO env st a w) {s q i : Nat} {eo : GO} {e sz : Nat} {rs : List GR} {es : List (List T)} (hk : look st.cur q = some (.grid eo e sz rs)) (hi : rs[i]? = some (.row es)) (hf : freshB env st.cur s = true) (hne : s ≠ q) :
    SR E N (fun k => if k = .cur s then β (.sub (.cur q) i) else β k) RO (detE C q i env) { st with cur := (s, .row e sz es) :: setCur (purgeC (.sub (.cur q) i) st.cur) q (.grid eo e sz (rs.set i .out)) } a w := by
  have hd := h.detach hk hi hf hne
  unfold detE
  split
  · refine ⟨hd.wr, hd.size, hd.defers, fun n x hx => ?_⟩
    obtain ⟨u, g1, g2⟩ := h.env n x hx
    exact ⟨u, g1, g2.no ((h.fresh hf).2 n x hx)⟩
  · exact hd
/-- The same, and what named the row names it still. -/
theorem SR.detachM (h : SR E N β RO env st a w) {s q i : Nat} {eo : GO} {e sz : Nat} {rs : List GR} {es : List (List T)} (hk : look st.cur q = some (.grid eo e sz rs)) (hi : rs[i]? = some (.row es)) (hf : freshB env st.cur s = true) (hne : s ≠ q) :
    SR E N (fun k => if k = .cur s then β (.sub (.cur q) i) else β k) RO (moveE (.sub (.cur q) i) (.cur s) env) { st with cur := (s, .row e sz es) :: setCur (purgeC (.sub (.cur q) i) st.cur) q (.grid eo e sz (rs.set i .out)) } a w := by
  have hd := h.detach hk hi hf hne
  refine ⟨hd.wr, hd.size, hd.defers, fun n x hx => ?_⟩
  rw [look_moveE] at hx
  cases hy : look env n with
  | none => simp [hy] at hx
  | some y =>
    simp [hy] at hx
    rw [← hx]
    rcases moveV_cases (.sub (.cur q) i) (.cur s) y with ⟨sz1, off1, len1, rfl, h2⟩ | h2
    · obtain ⟨u, g1, g2⟩ := h.env n _ hy
      refine ⟨u, g1, ?_⟩
      rw [h2]
      cases g2 with
      | osl _ _ _ _ c1 e1 n1 a1 b1 c2 d1 =>
        have := VL.osl (β := fun k => if k = .cur s then β (.sub (.cur q) i) else β k) (RO := RO) (w := w) (.cur s) sz1 off1 len1 c1 e1 n1 a1 (by simp only [if_true]; exact b1) c2 d1
        simpa using this
    · obtain ⟨u, g1, g2⟩ := hd.env n (purgeV (.sub (.cur q) i) y) (by rw [look_purgeE, hy]; rfl)
      exact ⟨u, g1, by rw [h2]; exact g2.purge⟩

include hC
theorem appTW_gives (h : SR E N β RO env st a w) {s t ty : Nat} {x y : LV} {vx vy : Value} {K' : LV → Env → St → Prop} (hx : VL β RO w x vx) (hy : VL β RO w y vy) (hW : appTW C env st s t x y K') :
    Gives P E N a w (Builtin.append_ #[t, t] ty #[vx, vy]) K' := by
  unfold appTW at hW
  split at hW
  · rename_i q i sz1 len
    split at hW
    rotate_left
    · cases hW
    rename_i e s0 b0 z0 ht
    have hu := run_slice_ty hC ht
    split at hW
    rotate_left
    · cases hW
    rename_i te hte
    split at hW
    · cases hW
    rename_i sz hsz
    obtain ⟨xs, hW2, aa, m, c, news, rfl, rfl, hf, hn1, hnone, hcell⟩ := srcW_gives h.wr (Nat.succ_pos sz) hy hW
    clear hW
    have hW := hW2
    clear hW2
    split at hW
    rotate_left
    · cases hW
    rename_i eo e' sz2 rs hk
    split at hW
    rotate_left
    · cases hW
    rename_i h1 h2 h3 hfr hsq
    have h1 := Nat.eq_of_beq_eq_true h1
    have h2 := Nat.eq_of_beq_eq_true h2
    have h3 := Nat.eq_of_beq_eq_true h3
    have hsq := Nat.ne_of_beq_eq_false hsq
    subst h1; subst h2; subst h3
    obtain ⟨es, hi, rfl, hb, hm, hW⟩ := hW
    have hd := h.detachE C hk hi hfr hsq
    have hx2 : VL (fun k => if k = .cur s then β (.sub (.cur q) i) else β k) RO w (.osl (.cur s) (sz + 1) 0 es.length) vx := by
      cases hx with
      | osl _ _ _ _ cap e n a b c d =>
        have := VL.osl (β := fun k => if k = .cur s then β (.sub (.cur q) i) else β k) (RO := RO) (w := w) (.cur s) (sz + 1) 0 es.length cap e n a (by simp only [if_true]; exact b) c d
        simpa using this
    exact append_own hC hd rfl (by simp only [St.get, look_cons, if_true]) hu hte hsz hx2 hf hn1 hnone hcell hb hm hW
  · rename_i q sz1 len
    split at hW
    · exact appW_gives hC h hx hy hW
    split at hW
    rotate_left
    · cases hW
    rename_i e s0 b0 z0 ht
    have hu := run_slice_ty hC ht
    split at hW
    rotate_left
    · cases hW
    rename_i te hte
    split at hW
    · cases hW
    rename_i sz hsz
    obtain ⟨xs, hW2, aa, m, c, news, rfl, rfl, hf, hn1, hnone, hcell⟩ := srcW_gives h.wr (Nat.succ_pos sz) hy hW
    clear hW
    have hW := hW2
    clear hW2
    split at hW
    rotate_left
    · cases hW
    rename_i e' sz2 es hk
    split at hW
    rotate_left
    · cases hW
    rename_i h1 h2 h3
    have h1 := Nat.eq_of_beq_eq_true h1
    have h2 := Nat.eq_of_beq_eq_true h2
    have h3 := Nat.eq_of_beq_eq_true h3
    subst h1; subst h2; subst h3
    obtain ⟨hle, hb, hm, hW⟩ := hW
    have hd := h.trunc (n := len) hk
    have hkt : St.get { st with cur := setCur st.cur q (.row e' (sz + 1) (es.take len)) } (.cur q) = some (.row e' (sz + 1) (es.take len)) := by
      simp only [St.get, look_setCur, if_true, hk, Option.map_some]
    have hlen : (es.take len).length = len := by simp; omega
    have hst : ((St.purge { st with cur := setCur st.cur q (.row e' (sz + 1) (es.take len)) } (.cur q)).set (.cur q) (.row e' (sz + 1) (es.take len ++ xs))) = ((st.purge (.cur q)).set (.cur q) (.row e' (sz + 1) (es.take len ++ xs))) := by
      simp only [St.purge, St.set]
      congr 1
      generalize st.cur = cur
      induction cur with
      | nil => rfl
      | cons p r ih =>
        obtain ⟨m, o⟩ := p
        simp only [setCur]
        cases hb : Nat.beq m q with
        | true => simp only [purgeC, setCur, hb]
        | false => simp only [purgeC, setCur, hb, ih]
    rw [← hst] at hW
    exact append_own hC hd rfl hkt hu hte hsz (by rw [hlen]; exact hx) hf hn1 hnone hcell hb hm hW
  · exact appW_gives hC h hx hy hW

end
end Go.Fw

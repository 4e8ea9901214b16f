/- Texts that lead to the law, part 13. -/
import Derived.Test.YtmcbncmklopoaaaZL

/- Best is run on the example. -/
namespace Go.Fw
open Go Go.Proofs
set_option maxRecDepth 100000

def tStr (l : List UInt8) : T := .v (.string ⟨l.toArray⟩)
def exCs : List LV := [.t (.sl false 1 [[tStr [104, 101, 114, 101]], [tStr [116, 104, 101, 114, 101]]]), .t (.sl false 1 [tI 0]), .t (.sl false 2 [[.v (.int .i64 1), .v (.bool false)]]),
  .t (.sl false 4 [[tStr [103, 111], .v (.int .i64 2), .sl false 2 [[.v (.int .i64 0), .v (.bool false)]], .sl false 3 [[.sl true 0 [], .v (.int .i64 0), .v (.bool true)], [.sl true 0 [], .v (.int .i64 1), .v (.bool false)]]]])]
def exT : LV := .agg exCs
def exS : LV := .t (.sl false 1 [tI 0])
noncomputable def runR : EvT := evN cxr runX runO runT [102, 115, 76, 79, 41] 1000 200
noncomputable def b10 : Code := Try.f10.body.get!
noncomputable def pre10F (r : Option (Code × (Env × (St × Nat)))) : Option (Env × Fr) := match r with
  | some (_, env, st, _) => some (keepF [1, 2, 4, 5] env, gcF st.cur [0, 2, 4])
  | none => none
theorem pre10F_inv {r : Option (Code × (Env × (St × Nat)))} {x : Env} {o : Fr} (h : pre10F r = some (x, o)) : ∃ c env st k, r = some (c, env, st, k) ∧ keepF [1, 2, 4, 5] env = x ∧ gcF st.cur [0, 2, 4] = o := by
  unfold pre10F at h
  split at h
  · rename_i c env st k
    have h := Option.some.inj h
    exact ⟨c, env, st, k, rfl, congrArg Prod.fst h, congrArg Prod.snd h⟩
  · cases h
def z10 : List LV := [.t (.v (.bool false)), .t (.v (.int .i64 0)), .t (.v (.int .i64 0)), .t (.sl true 0 []), .t (.v (.int .i64 0)), .t (.sl true 0 [])]
def E10 : Env := [(1, exS), (2, .ptr (.cur 0) 0), (4, .ptr (.cur 2) 0), (5, .ptr (.cur 4) 0)]
def C10 : Fr := [(4, .box [.t (.v (.int .i64 0))]), (2, .box z10), (0, .box exCs)]
def rg (c : Code) : Code := match c with
  | .seq a _ => a
  | c => c
noncomputable def run10F (r : EvR) : Option (LV × Fr) := match r with
  | some (e, env, st, _) => match isNrm e, resL cxr env st Try.f10.results.toList with
    | true, some l => some (resV l, gcF st.cur (namV (resV l)))
    | _, _ => none
  | none => none
theorem run10F_inv {r : EvR} {x : LV} {o : Fr} (h : run10F r = some (x, o)) : ∃ env st k l, r = some (.normal, env, st, k) ∧ resL cxr env st Try.f10.results.toList = some l ∧ resV l = x ∧ gcF st.cur (namV (resV l)) = o := by
  unfold run10F at h
  split at h
  · rename_i e env st k
    split at h
    · rename_i l hn hl
      have h := Option.some.inj h
      have he : e = .normal := by cases e <;> first | rfl | cases hn
      subst he
      exact ⟨env, st, k, l, rfl, hl, congrArg Prod.fst h, congrArg Prod.snd h⟩
    · cases h
  · cases h
def R10 : LV := .tup [.agg [.t (.v (.bool true)), .t (.v (.int .i64 1)), .t (.v (.int .i64 2)), .osl (.cur 809007428292003840) 1 0 2, .t (.v (.int .i64 1)), .osl (.cur 809002428265003803) 1 0 1], .t (.v (.int .i64 0))]
def O10 : Fr := [(809002428265003803, .row 3 1 [[.v (.int .i64 1)]]), (809007428292003840, .row 3 1 [[.v (.int .i64 0)], [.v (.int .i64 (-2))]])]
theorem pre10_ok : pre10F (preE runR 48 [] [] 3 b10 (argE 0 [exT, exS]) ⟨[], []⟩ 0) = some (E10, C10) := by kernel_rfl
theorem run10_ok : run10F (runR (rg (tailC 4 b10)) [] [] E10 ⟨[], C10⟩ 1000) = some (R10, O10) := by kernel_rfl

end Go.Fw

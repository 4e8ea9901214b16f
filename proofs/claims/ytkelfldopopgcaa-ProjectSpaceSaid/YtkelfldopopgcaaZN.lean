/- The search. -/
import Derived.Test.YtkelfldopopgcaaZM

/- What the program's functions do: the optimal cost of a task. -/
namespace Go.Fw
open Go Go.Proofs Heap
set_option maxRecDepth 10000

def kq33 : Kp := [(6, ([2, 6, 7, 8, 9, 10], [16, 160, 200, 208, 224, 240])), (13, ([2, 6, 7, 8, 9, 10, 11, 13, 68, 69, 70], [16, 160, 200, 208, 224, 240, 88]))]
def oq33 : Od := [(8, [(0, .tree (.pure 0 (.pure 1 (.pure 2 (.pure 3 (.pure 4 (.pure 5 (.pure 6 (.pure 7 .done)))))))))]), (22, [(0, .tree (.pure 0 (.pure 1 (.pure 4 (.pure 5 (.pure 6 (.pure 7 (.pure 8 (.pure 9 (.fork 2 (.fork 3 (.eff 10 (.last 11 (.last 12 (.last 13 .done []) [5, 6, 7, 8]) [5, 7])) [4, 5, 6, 7, 8, 9] (.last 10 (.last 3 (.last 11 (.last 12 (.last 13 .done []) [5, 6, 7, 8]) [5, 7]) [4, 5, 6, 7, 8, 9]) [0, 1, 4])) [0, 4, 5, 6, 7, 8, 9] (.last 10 (.eff 2 (.last 3 (.last 11 (.last 12 (.last 13 .done []) [5, 6, 7, 8]) [5, 7]) [4, 5, 6, 7, 8, 9])) [0, 1, 4])))))))))))]), (25, [(0, .tree (.pure 0 (.pure 1 (.pure 2 (.pure 3 (.pure 4 (.pure 5 (.pure 6 (.pure 7 (.pure 8 (.pure 9 .done)))))))))))])]
/-- What lies where a search goes on. -/
abbrev frX (u : Task) (kv : List (Value × T)) (rS rF : List (List T)) (Q : List Heap.Item) : Fr := [(16, .box (cellsTask u)), (160, .mp .str kv), (200, .row 22 1 rS), (208, .row 3 1 rF), (224, rowQ Q), (240, .box [.osl (.cur 224) 2 0 Q.length])]
abbrev frO (u : Task) (S : List (List Int)) (F : List Int) (Q : List Heap.Item) : Fr := [(16, .box (cellsTask u)), (160, .mp .str (kvT S)), (200, .row 22 1 (S.map tSt)), (208, .row 3 1 (F.map tI)), (224, rowQ Q), (240, .box [.osl (.cur 224) 2 0 Q.length])]
abbrev envO (nS nF : Nat) (best : Int) : Env := [(2, .ptr (.cur 16) 0), (6, .mpr (.cur 160)), (7, .osl (.cur 200) 1 0 nS), (8, .osl (.cur 208) 1 0 nF), (9, .ptr (.cur 240) 0), (10, .int best)]

set_option maxHeartbeats 4000000 in
theorem f33_spec (u : Task) (s : List Int) (TK : TaskOK u) (hs : risingB s u.facts.length = true) (out : List Fr) : SpecP Try.prog 33 [.task u, .ints s.isEmpty s] out fun r ro => OptR u s r ∧ ro = [] := by
  refine spec_walkH cxm_ok mH_ok kq33 oq33 (fn := Try.f33) (by kernel_rfl) rfl (by kernel_rfl) rfl (by unfold FnOK; kernel_rfl) fun hok => ?_
  have hN := TK.facts
  have hA := TK.acts
  have hsl := rising_len hs (by omega)
  refine SpecP.mono (f56_spec s.isEmpty s (rising_u hs hN) hsl []) ?_
  rintro _ _ ⟨rfl, rfl⟩
  refine LoopX.mk (List Fr × List (List Int) × List Int × List Heap.Item × List Nat × Int × Int)
    (fun p => Sea u s none [] p.2.1 p.2.2.1 p.2.2.2.1 p.2.2.2.2.1 p.2.2.2.2.2.1 p.2.2.2.2.2.2 ∧ p.2.2.2.1.length ≤ 1 + 1000 * p.2.2.2.2.1.length)
    (fun p => envO p.2.1.length p.2.2.1.length p.2.2.2.2.2.2) (fun p => ⟨p.1, frO u p.2.1 p.2.2.1 p.2.2.2.1⟩)
    (fun p => (20001 - p.2.2.2.2.1.length) * 1002 + p.2.2.2.1.length) (out, [s], [0], [(0, 0)], [], 0, -1) ⟨Sea.start hs, by simp⟩ ⟨rfl, rfl⟩ ?_
  rintro ⟨o, S, F, Q, dn, m, best⟩ ⟨hI, hQl⟩
  simp only at hI hQl
  have hdn : dn.length ≤ 20000 := Nat.le_trans hI.inv.dn_le hI.few
  refine ModH.mk [(3, 224)] (f57_spec Q Q.length) rfl rfl ⟨rfl, trivial⟩ ?_
  rintro _ _ ⟨rfl, rfl⟩
  refine And.intro rfl ?_
  refine And.intro (fun h1 => ?_) fun h1 => ?_
  rotate_left
  · have hQe : Q = [] := by
      have h1 := of_decide_eq_false h1
      exact List.eq_nil_of_length_eq_zero (by omega)
    subst hQe
    obtain ⟨hW, hb⟩ := hI.inv.done
    refine And.intro (fun h2 => ?_) fun h2 => ?_
    · have h2 : best < 0 := of_decide_eq_true h2
      rcases hb with ⟨_, hg⟩ | ⟨h0, _⟩
      · exact Exists.intro [] ⟨.none S hW hI.few hg, rfl⟩
      · omega
    · have h2 : ¬ best < 0 := of_decide_eq_false h2
      rcases hb with ⟨h0, _⟩ | ⟨h0, hc⟩
      · omega
      · exact Exists.intro [] ⟨.ok S hW hI.few best h0 hI.bst hc, rfl⟩
  have hQ0 : 0 < Q.length := by simpa using h1
  obtain ⟨x, Q', hspec, hperm, hHP, hmin, hQ'⟩ : ∃ x Q', SpecM Try.prog 58 [hQ] (frQ Q) [(1, 1)] (fun r ro => r = ifcQ x ∧ ro = frQ Q') ∧ Q.Perm (x :: Q') ∧ HP Q' Q'.length ∧ (∀ y ∈ Q, x.2 ≤ y.2) ∧ Q'.length = Q.length - 1 := by
    obtain ⟨g1, g2, g3, g4, g5⟩ := pop_spec hI.heap hQ0
    have gl : ((popL Q).take (Q.length - 1)).length = Q.length - 1 := by rw [List.length_take, g1]; omega
    exact ⟨_, _, f58_spec Q hQ0 (by omega), by rw [g2]; exact g3, by rw [gl]; exact g4, by rw [g2]; exact g5, gl⟩
  have hinv := hI.inv.perm hperm
  obtain ⟨xn, xc⟩ := x
  obtain ⟨n, f, hn, hf, hfx, hmx, hxC, _⟩ := hinv.qok (xn, xc) (List.mem_cons_self ..)
  simp only at hn hfx hmx hxC
  subst hn
  have hnF : n < F.length := (List.getElem?_eq_some_iff.1 hf).1
  have hnS : n < S.length := by rw [← hinv.len]; exact hnF
  have hminQ : ∀ y ∈ Q', xc ≤ y.2 := fun y hy => hmin y (hperm.mem_iff.2 (List.mem_cons_of_mem _ hy))
  have hfew := hI.few
  have hx0 : 0 ≤ xc := Int.le_trans hinv.mpos hmx
  have hxb : xc ≤ 2000000000 := by omega
  have hgF : (F.map tI)[0 + ((n : Nat) : Int).toNat]? = some (tI f) := by rw [Nat.zero_add, Int.toNat_natCast, List.getElem?_map, hf]; rfl
  obtain ⟨sx, hsx⟩ : ∃ sx, S[n]? = some sx := ⟨_, List.getElem?_eq_getElem hnS⟩
  have hgS : (S.map tSt)[0 + ((n : Nat) : Int).toNat]? = some (tSt sx) := by rw [Nat.zero_add, Int.toNat_natCast, List.getElem?_map, hsx]; rfl
  have hsr := hI.rise sx (List.mem_of_getElem? hsx)
  refine ModH.mk [(1, 240), (3, 224)] hspec rfl rfl ⟨rfl, rfl, trivial⟩ ?_
  rintro _ _ ⟨rfl, rfl⟩
  refine And.intro rfl ?_
  refine And.intro (fun _ => ?_) fun h => Bool.noConfusion h
  refine And.intro (by omega) (And.intro (by show (n : Int) < (F.length : Int); omega) ?_)
  refine Exists.intro _ (And.intro hgF ?_)
  refine And.intro (fun h2 => ?_) fun h2 => ?_
  · have h2 : f < xc := of_decide_eq_true h2
    refine Exists.intro ([], S, F, Q', dn, xc, best) (And.intro ?_ (And.intro ⟨⟨hinv.stale hminQ rfl hf h2, hHP, hI.rise, hI.few, hI.bst⟩, by simp only; omega⟩ (And.intro rfl rfl)))
    show (20001 - dn.length) * 1002 + Q'.length < (20001 - dn.length) * 1002 + Q.length
    omega
  have h2 : ¬ f < xc := of_decide_eq_false h2
  obtain ⟨hfe, hnd, hxl, hlive⟩ := hinv.live (by decide) hminQ rfl hsx hf h2
  simp only at hfe hxl hlive
  subst hfe
  refine And.intro (by omega) (And.intro (by show (n : Int) < (S.length : Int); omega) ?_)
  refine Exists.intro _ (And.intro hgS ?_)
  have inner : ∀ b' : Int, (if best < 0 ∧ holdsB sx u.goal = true then f else best) = b' → b' ≤ 2000000000 ∧ Sea u s (some n) [] S F Q' (n :: dn) f b' := fun b' hb' => by
    have hbst := hI.bst
    have : b' ≤ 2000000000 := by rw [← hb']; split <;> omega
    exact ⟨this, hb' ▸ hlive, hHP, hI.rise, hI.few, this⟩
  refine And.intro (fun h3 => ?a) fun h3 => ?b
  case' a =>
    refine SpecP.mono (f59_spec sx.isEmpty u.gn sx u.goal u.facts.length hsr (by omega) []) ?_
    rintro _ _ ⟨rfl, rfl⟩
    refine And.intro (fun h4 => ?c) fun h4 => ?d
  case' c =>
    let b' : Int := f
    obtain ⟨hbb, hSea⟩ := inner b' (if_pos ⟨of_decide_eq_true h3, h4⟩)
  case' d =>
    let b' : Int := best
    obtain ⟨hbb, hSea⟩ := inner b' (if_neg fun h => absurd (h.2.symm.trans h4) (by decide))
  case' b =>
    let b' : Int := best
    obtain ⟨hbb, hSea⟩ := inner b' (if_neg fun h => of_decide_eq_false h3 h.1)
  all_goals
    refine LoopX.mk (Nat × List Fr × List (List Int) × List Int × List Heap.Item)
      (fun p => p.1 ≤ u.acts.length ∧ Sea u s (some n) (succA u.facts.length sx (u.acts.take p.1)) p.2.2.1 p.2.2.2.1 p.2.2.2.2 (n :: dn) f b' ∧ p.2.2.1[n]? = some sx ∧ p.2.2.2.1[n]? = some f ∧ p.2.2.2.2.length ≤ Q'.length + p.1)
      (fun p => envO p.2.2.1.length p.2.2.2.1.length b' ++ [(11, .ptr (.cur 88) 0), (13, .ints sx.isEmpty sx), (68, .t (.sl u.an 4 (u.acts.map tAct))), (69, .int (u.acts.map tAct).length), (70, .int p.1)])
      (fun p => ⟨p.2.1, frO u p.2.2.1 p.2.2.2.1 p.2.2.2.2 ++ [(88, .box [.int (n : Int), .int f])]⟩) (fun p => u.acts.length - p.1) (0, [], S, F, Q') ⟨Nat.zero_le _, hSea, hsx, hf, Nat.le_refl _⟩ ⟨rfl, rfl⟩ ?_
    rintro ⟨k, o2, S2, F2, Q2⟩ ⟨hk0, hJ, hsx2, hf2, hQ2⟩
    simp only at hk0 hJ hsx2 hf2 hQ2
    have hdn2 : dn.length + 1 ≤ S2.length := hJ.inv.dn_le
    have hfew2 := hJ.few
    refine And.intro (fun h5 => ?_) fun h5 => ?_
    rotate_left
    · have hk : k = u.acts.length := by have := ge_of_dec h5; have : k ≤ u.acts.length := hk0; omega
      rw [hk, List.take_length] at hJ
      refine Exists.intro (o2, S2, F2, Q2, n :: dn, f, b') (And.intro ?_ (And.intro ⟨⟨hJ.inv.shut hsx2 rfl, hJ.heap, hJ.rise, hJ.few, hJ.bst⟩, ?_⟩ (And.intro rfl rfl)))
      · show (20001 - (dn.length + 1)) * 1002 + Q2.length < (20001 - dn.length) * 1002 + Q.length
        omega
      · show Q2.length ≤ 1 + 1000 * (dn.length + 1)
        omega
    have hk : k < u.acts.length := lt_of_dec h5
    have hem : u.acts[k] ∈ u.acts := List.getElem_mem hk
    have hcst := TK.cost _ hem
    have hstp := succA_step (n := u.facts.length) (s := sx) hk
    refine And.intro (by omega) (Exists.intro _ (And.intro (get_map hk) ?_))
    refine SpecP.mono (f59_spec sx.isEmpty u.acts[k].pn sx u.acts[k].pre u.facts.length hsr (by omega) []) ?_
    rintro _ _ ⟨rfl, rfl⟩
    refine And.intro (fun h6 => ?_) fun h6 => ?_
    rotate_left
    · have h6 : holdsB sx u.acts[k].pre = false := h6
      rw [h6, if_neg (by decide), List.append_nil] at hstp
      refine And.intro (by show (-9223372036854775808 : Int) ≤ (k : Int) + 1; omega) (And.intro (by show (k : Int) + 1 ≤ 9223372036854775807; omega) ?_)
      exact Exists.intro (k + 1, o2, S2, F2, Q2) (And.intro (by show u.acts.length - (k + 1) < u.acts.length - k; omega) (And.intro ⟨hk, hstp.symm ▸ hJ, hsx2, hf2, by show Q2.length ≤ Q'.length + (k + 1); omega⟩ (And.intro rfl rfl)))
    have h6 : holdsB sx u.acts[k].pre = true := h6
    rw [if_pos h6] at hstp
    have hE := succ_mem hk h6
    refine SpecP.mono (f60i_spec sx.isEmpty sx u.acts[k] u.facts.length hsr (by omega) (TK.lit _ hem) (by have := TK.effs _ hem; omega) []) ?_
    rintro _ _ ⟨rfl, rfl⟩
    have hLr : risingB (afterL u.facts.length sx u.acts[k].effs) u.facts.length = true := after_rising ..
    have hLl := rising_len hLr (by omega)
    generalize hL : afterL u.facts.length sx u.acts[k].effs = L at hstp hE hLr hLl
    refine SpecP.mono (f56_spec L.isEmpty L (rising_u hLr hN) hLl []) ?_
    rintro _ _ ⟨rfl, rfl⟩
    have hsame : ∀ y ∈ S2, sameK (keyV L) (keyV y) = decide (L = y) := fun y hy => same_key (rising_u hLr hN) (rising_u (hJ.rise y hy) hN)
    have hvb : f + u.acts[k].cost ≤ 100000 * (((n :: dn).length : Nat) : Int) := by simp only [List.length_cons]; omega
    by_cases hmem : L ∈ S2
    · obtain ⟨j, hj, hlk⟩ : ∃ j : Nat, S2[j]? = some L ∧ lookKV (keyV L) (.v (.int .i64 0)) (kvT S2) = .v (.int .i64 (j : Int)) := ⟨posG S2 L, posG_get hmem, by rw [look_kvG hsame, if_pos hmem, Nat.zero_add]⟩
      have hhas : hasKV (keyV L) (kvT S2) = true := by rw [has_kvG hsame]; simpa using hmem
      have hjS : j < S2.length := (List.getElem?_eq_some_iff.1 hj).1
      have hjF : j < F2.length := by rw [hJ.inv.len]; exact hjS
      obtain ⟨g, hg⟩ : ∃ g, F2[j]? = some g := ⟨_, List.getElem?_eq_getElem hjF⟩
      have hgF2 : (F2.map tI)[0 + ((j : Nat) : Int).toNat]? = some (tI g) := by rw [Nat.zero_add, Int.toNat_natCast, List.getElem?_map, hg]; rfl
      refine Exists.intro _ (Exists.intro _ (And.intro hlk (And.intro hhas ?_)))
      refine And.intro (fun _ => ?_) fun h => Bool.noConfusion h
      refine And.intro (by omega) (And.intro (by show (j : Int) < (F2.length : Int); omega) (Exists.intro _ (And.intro hgF2 ?_)))
      refine And.intro (by omega) (And.intro (by omega) ?_)
      refine And.intro (fun h8 => ?_) fun h8 => ?_
      · have h8 : g ≤ f + u.acts[k].cost := of_decide_eq_true h8
        have hnew := hJ.inv.skip hf2 hj hg h8
        rw [← hstp] at hnew
        refine And.intro (by show (-9223372036854775808 : Int) ≤ (k : Int) + 1; omega) (And.intro (by show (k : Int) + 1 ≤ 9223372036854775807; omega) ?_)
        exact Exists.intro (k + 1, o2, S2, F2, Q2) (And.intro (by show u.acts.length - (k + 1) < u.acts.length - k; omega) (And.intro ⟨hk, ⟨hnew, hJ.heap, hJ.rise, hJ.few, hJ.bst⟩, hsx2, hf2, by show Q2.length ≤ Q'.length + (k + 1); omega⟩ (And.intro rfl rfl)))
      · have h8 : ¬ g ≤ f + u.acts[k].cost := of_decide_eq_false h8
        have hlt : f + u.acts[k].cost < g := by omega
        have hnew := hJ.inv.less hcst.1 (succ_nonneg TK) hsx2 hf2 hE hvb hj hg hlt
        rw [← hstp] at hnew
        have hset : (F2.map tI).set (0 + ((j : Nat) : Int).toNat) (tI (f + u.acts[k].cost)) = (F2.set j (f + u.acts[k].cost)).map tI := by rw [Nat.zero_add, Int.toNat_natCast, List.map_set]
        have hgn : ((F2.map tI).set (0 + ((j : Nat) : Int).toNat) (tI (f + u.acts[k].cost)))[0 + ((j : Nat) : Int).toNat]? = some (tI (f + u.acts[k].cost)) := by
          rw [hset, Nat.zero_add, Int.toNat_natCast, List.getElem?_map, List.getElem?_set_self hjF]; rfl
        have hne : j ≠ n := by rintro rfl; rw [hf2] at hg; cases hg; omega
        obtain ⟨p1, p2, p3⟩ := push_spec (x := ((j : Int), f + u.acts[k].cost)) hJ.heap
        refine And.intro (by omega) (And.intro (by omega) ?_)
        refine And.intro (by omega) (And.intro (by show (j : Int) < (F2.length : Int); omega) (Exists.intro _ (And.intro hgF2 (And.intro (Nat.le_refl 1) ?_))))
        refine And.intro (by omega) (And.intro (by show (j : Int) < (F2.length : Int); omega) (Exists.intro _ (And.intro hgn ?_)))
        refine ModH.mk [(1, 240), (3, 224)] (f61_spec Q2 ((j : Int), f + u.acts[k].cost) (by omega)) rfl rfl ⟨rfl, rfl, trivial⟩ ?_
        rintro _ _ ⟨rfl, rfl⟩
        refine And.intro rfl ?_
        refine And.intro (by show (-9223372036854775808 : Int) ≤ (k : Int) + 1; omega) (And.intro (by show (k : Int) + 1 ≤ 9223372036854775807; omega) ?_)
        refine Exists.intro (k + 1, [], S2, F2.set j (f + u.acts[k].cost), pushL Q2 ((j : Int), f + u.acts[k].cost)) (And.intro (by show u.acts.length - (k + 1) < u.acts.length - k; omega) (And.intro ⟨hk, ⟨hnew.perm p1.symm, p3, hJ.rise, hJ.few, hJ.bst⟩, hsx2, ?_, by show (pushL Q2 _).length ≤ Q'.length + (k + 1); rw [p2]; omega⟩ ?_))
        · show (F2.set j _)[n]? = some f
          rw [List.getElem?_set_ne hne]; exact hf2
        exact And.intro (Eq.trans (b := envO S2.length F2.length b' ++ [(11, .ptr (.cur 88) 0), (13, .ints sx.isEmpty sx), (68, .t (.sl u.an 4 (u.acts.map tAct))), (69, .int (u.acts.map tAct).length), (70, .int ((k : Int) + 1))]) rfl
            (congrArg (fun z => envO S2.length z b' ++ [(11, .ptr (.cur 88) 0), (13, .ints sx.isEmpty sx), (68, .t (.sl u.an 4 (u.acts.map tAct))), (69, .int (u.acts.map tAct).length), (70, .int ((k : Int) + 1))]) (List.length_set ..).symm))
          (Eq.trans (b := (⟨[], frX u (kvT S2) (S2.map tSt) ((F2.map tI).set (0 + ((j : Nat) : Int).toNat) (tI (f + u.acts[k].cost))) (pushL Q2 ((j : Int), f + u.acts[k].cost)) ++ [(88, .box [.int (n : Int), .int f])]⟩ : St)) rfl
            (congrArg (fun z => (⟨[], frX u (kvT S2) (S2.map tSt) z (pushL Q2 ((j : Int), f + u.acts[k].cost)) ++ [(88, .box [.int (n : Int), .int f])]⟩ : St)) hset))
    · have hlk : lookKV (keyV L) (.v (.int .i64 0)) (kvT S2) = .v (.int .i64 0) := by rw [look_kvG hsame, if_neg hmem]
      have hhas : hasKV (keyV L) (kvT S2) = false := by rw [has_kvG hsame]; simpa using hmem
      refine Exists.intro _ (Exists.intro _ (And.intro hlk (And.intro hhas ?_)))
      refine And.intro (fun h => Bool.noConfusion h) fun _ => ?_
      refine And.intro (by omega) (And.intro (by omega) ?_)
      have hSl4 : ∀ X : List T, ((S2.map tSt).take S2.length ++ [X]).length ≤ 20001 := fun X => by rw [List.length_append, List.length_take, List.length_map, List.length_singleton]; omega
      have hFl4 : ∀ X : List T, ((F2.map tI).take F2.length ++ [X]).length ≤ 20001 := fun X => by rw [List.length_append, List.length_take, List.length_map, List.length_singleton, hJ.inv.len]; omega
      have hlo : -9223372036854775808 ≤ f + u.acts[k].cost := by omega
      have hhi : f + u.acts[k].cost ≤ 9223372036854775807 := by omega
      have hRS : (S2.map tSt).take S2.length ++ [tSt L] = (S2 ++ [L]).map tSt := by rw [List.take_of_length_le (by simp)]; simp
      have hRF : (F2.map tI).take F2.length ++ [tI (f + u.acts[k].cost)] = (F2 ++ [f + u.acts[k].cost]).map tI := by rw [List.take_of_length_le (by simp)]; simp
      have hFS : F2.length = S2.length := hJ.inv.len
      have hgL : ((F2 ++ [f + u.acts[k].cost]).map tI)[0 + ((S2.length : Nat) : Int).toNat]? = some (tI (f + u.acts[k].cost)) := by
        rw [Nat.zero_add, Int.toNat_natCast, List.getElem?_map, ← hFS, List.getElem?_append_right (Nat.le_refl _), Nat.sub_self]; rfl
      have hset : ((F2 ++ [f + u.acts[k].cost]).map tI).set (0 + ((S2.length : Nat) : Int).toNat) (tI (f + u.acts[k].cost)) = (F2 ++ [f + u.acts[k].cost]).map tI := by
        refine List.ext_getElem? fun q => ?_
        rw [List.getElem?_set]
        split
        · rename_i hq
          rw [← hq, hgL, if_pos]
          rw [List.length_map, List.length_append, Nat.zero_add, Int.toNat_natCast, hFS]; simp
        · rfl
      have hkv : updKV (keyV L) (.v (.int .i64 (S2.length : Int))) (kvT S2) = kvT (S2 ++ [L]) := by have := upd_kvG (k := 0) hsame hmem; rwa [Nat.zero_add] at this
      have hlast : (S2.length : Int) < ((((F2.map tI).take F2.length ++ [tI (f + u.acts[k].cost)]).length : Nat) : Int) := by rw [hRF, List.length_map, List.length_append, hFS]; simp; omega
      have hnewN : (S2 ++ [L]).Nodup := List.nodup_append.2 ⟨hJ.inv.nodup, by simp, fun a ha b hb => by simp at hb; subst hb; rintro rfl; exact hmem ha⟩
      have hfr := hJ.inv.fresh hcst.1 hsx2 hf2 hE hvb hmem
      rw [← hstp] at hfr
      obtain ⟨p1, p2, p3⟩ := push_spec (x := ((S2.length : Int), f + u.acts[k].cost)) hJ.heap
      have hn1 : (S2 ++ [L])[n]? = some sx := by rw [List.getElem?_append_left (List.getElem?_eq_some_iff.1 hsx2).1]; exact hsx2
      have hn2 : (F2 ++ [f + u.acts[k].cost])[n]? = some f := by rw [List.getElem?_append_left (List.getElem?_eq_some_iff.1 hf2).1]; exact hf2
      have hrs : ∀ x ∈ S2 ++ [L], risingB x u.facts.length = true := fun x hx => by
        rcases List.mem_append.1 hx with hx | hx
        · exact hJ.rise x hx
        · simp at hx; subst hx; exact hLr
      repeat' first
        | refine And.intro rfl ?_
        | refine And.intro (Nat.le_of_ble_eq_true rfl) ?_
        | refine And.intro hlo ?_
        | refine And.intro hhi ?_
        | refine And.intro (Nat.le_of_eq (List.length_map tSt).symm) ?_
        | refine And.intro (Nat.le_of_eq (List.length_map tI).symm) ?_
        | refine And.intro (Nat.le_trans (Nat.mul_le_mul_right _ (hSl4 _)) (Nat.le_of_ble_eq_true rfl)) ?_
        | refine And.intro (Nat.le_trans (hSl4 _) (Nat.le_of_ble_eq_true rfl)) ?_
        | refine And.intro (Nat.le_trans (Nat.mul_le_mul_right _ (hFl4 _)) (Nat.le_of_ble_eq_true rfl)) ?_
        | refine And.intro (Nat.le_trans (hFl4 _) (Nat.le_of_ble_eq_true rfl)) ?_
        | refine And.intro (Int.natCast_nonneg _) ?_
        | (refine And.intro (fun h9 => ?_) fun h9 => ?_; rotate_left)
        | refine And.intro hlast ?_
        | refine And.intro ?_ ?_
      all_goals
        first
          | (have h9 := of_decide_eq_true h9
             simp only [List.length_append, List.length_take, List.length_map, List.drop_zero] at h9
             exact Exists.intro [] ⟨.space (S2 ++ [L]) hnewN hfr.reach (by rw [List.length_append, List.length_singleton]; simp at h9; omega), rfl⟩)
          | (have h9 := of_decide_eq_false h9
             simp only [List.length_append, List.length_take, List.length_map, List.drop_zero] at h9
             have hfew3 : (S2 ++ [L]).length ≤ 20000 := by rw [List.length_append, List.length_singleton]; simp at h9; omega
             refine Exists.intro (tI (f + u.acts[k].cost)) (And.intro (by show ((F2.map tI).take F2.length ++ [tI (f + u.acts[k].cost)])[0 + ((S2.length : Nat) : Int).toNat]? = _; rw [hRF]; exact hgL) (And.intro (Nat.le_refl 1) ?_))
             refine And.intro (Int.natCast_nonneg _) (And.intro hlast ?_)
             refine Exists.intro (tI (f + u.acts[k].cost)) (And.intro (by show (((F2.map tI).take F2.length ++ [tI (f + u.acts[k].cost)]).set (0 + ((S2.length : Nat) : Int).toNat) (tI (f + u.acts[k].cost)))[0 + ((S2.length : Nat) : Int).toNat]? = _; rw [hRF, hset]; exact hgL) ?_)
             refine ModH.mk [(1, 240), (3, 224)] (f61_spec Q2 ((S2.length : Int), f + u.acts[k].cost) (by omega)) rfl rfl ⟨rfl, rfl, trivial⟩ ?_
             rintro _ _ ⟨rfl, rfl⟩
             refine And.intro rfl ?_
             refine And.intro (by show (-9223372036854775808 : Int) ≤ (k : Int) + 1; omega) (And.intro (by show (k : Int) + 1 ≤ 9223372036854775807; omega) ?_)
             refine Exists.intro (k + 1, [], S2 ++ [L], F2 ++ [f + u.acts[k].cost], pushL Q2 ((S2.length : Int), f + u.acts[k].cost)) (And.intro (by show u.acts.length - (k + 1) < u.acts.length - k; omega) (And.intro ⟨hk, ⟨hfr.perm p1.symm, p3, hrs, hfew3, hJ.bst⟩, hn1, hn2, by show (pushL Q2 _).length ≤ Q'.length + (k + 1); rw [p2]; omega⟩ ?_))
             exact And.intro (Eq.trans (b := envO ((S2.map tSt).take S2.length ++ [tSt L]).length ((F2.map tI).take F2.length ++ [tI (f + u.acts[k].cost)]).length b' ++ [(11, .ptr (.cur 88) 0), (13, .ints sx.isEmpty sx), (68, .t (.sl u.an 4 (u.acts.map tAct))), (69, .int (u.acts.map tAct).length), (70, .int ((k : Int) + 1))]) rfl
                 (by rw [hRS, hRF, List.length_map, List.length_map]; rfl))
               (Eq.trans (b := (⟨[], frX u (updKV (keyV L) (.v (.int .i64 (S2.length : Int))) (kvT S2)) ((S2.map tSt).take S2.length ++ [tSt L]) (((F2.map tI).take F2.length ++ [tI (f + u.acts[k].cost)]).set (0 + ((S2.length : Nat) : Int).toNat) (tI (f + u.acts[k].cost))) (pushL Q2 ((S2.length : Int), f + u.acts[k].cost)) ++ [(88, .box [.int (n : Int), .int f])]⟩ : St)) rfl
                 (by rw [hkv, hRS, hRF, hset])))

end Go.Fw

/- Texts that lead to the law, part 10. -/
import Derived.Test.YtkelfldopopgcaaGreatZI

/- What the program's functions do: the optimal cost of a task. -/
namespace Go.Fw
open Go Go.Proofs Heap
set_option maxRecDepth 10000

def kq33 : Kp := [(6, ([2, 6, 7, 8, 9, 10], [16, 160, 200, 208, 224, 240])), (13, ([2, 6, 7, 8, 9, 10, 11, 13, 68, 69, 70], [16, 160, 200, 208, 224, 240, 88]))]
def oq33 : Od := [(8, [(0, .tree (.pure 0 (.pure 1 (.pure 2 (.pure 3 (.pure 4 (.pure 5 (.pure 6 (.pure 7 .done)))))))))]), (22, [(0, .tree (.pure 0 (.pure 1 (.pure 4 (.pure 5 (.pure 6 (.pure 7 (.pure 8 (.pure 9 (.fork 2 (.fork 3 (.eff 10 (.last 11 (.last 12 (.last 13 .done []) [5, 6, 7, 8]) [5, 7])) [4, 5, 6, 7, 8, 9] (.last 10 (.last 3 (.last 11 (.last 12 (.last 13 .done []) [5, 6, 7, 8]) [5, 7]) [4, 5, 6, 7, 8, 9]) [0, 1, 4])) [0, 4, 5, 6, 7, 8, 9] (.last 10 (.eff 2 (.last 3 (.last 11 (.last 12 (.last 13 .done []) [5, 6, 7, 8]) [5, 7]) [4, 5, 6, 7, 8, 9])) [0, 1, 4])))))))))))]), (25, [(0, .tree (.pure 0 (.pure 1 (.pure 2 (.pure 3 (.pure 4 (.pure 5 (.pure 6 (.pure 7 (.pure 8 (.pure 9 .done)))))))))))])]
/-- What lies where a search goes on. -/
abbrev frX (u : Task) (kv : List (Value × T)) (rS rF : List (List T)) (Q : List Heap.Item) : Fr := [(16, .box (cellsTask u)), (160, .mp .str kv), (200, .row 23 1 rS), (208, .row 3 1 rF), (224, rowQ Q), (240, .box [.osl (.cur 224) 2 0 Q.length])]
abbrev frO (u : Task) (S : List (List Int)) (F : List Int) (Q : List Heap.Item) : Fr := [(16, .box (cellsTask u)), (160, .mp .str (kvT S)), (200, .row 23 1 (S.map tSt)), (208, .row 3 1 (F.map tI)), (224, rowQ Q), (240, .box [.osl (.cur 224) 2 0 Q.length])]
abbrev envO (nS nF : Nat) (best : Int) : Env := [(2, .ptr (.cur 16) 0), (6, .mpr (.cur 160)), (7, .osl (.cur 200) 1 0 nS), (8, .osl (.cur 208) 1 0 nF), (9, .ptr (.cur 240) 0), (10, .int best)]

set_option maxHeartbeats 4000000 in
theorem f25_spec (u : Task) (s : List Int) (TK : TaskOK u) (hs : risingB s u.facts.length = true) (out : List Fr) : SpecP Tryz.prog 25 [.task u, .ints s.isEmpty s] out fun r ro => OptR u s r ∧ ro = [] := by
  refine spec_walkH cxm_ok mH_ok kq33 oq33 (fn := Tryz.f25) (by kernel_rfl) rfl (by kernel_rfl) rfl (by unfold FnOK; kernel_rfl) fun hok => ?_
  have hN := TK.facts
  have hA := TK.acts
  have hsl := rising_len hs (by omega)
  refine SpecP.mono (f47_spec s.isEmpty s (rising_u hs hN) hsl []) ?_
  rintro _ _ ⟨rfl, rfl⟩
  refine LoopX.mk (List Fr × List (List Int) × List Int × List Heap.Item × List Nat × Int × Int)
    (fun p => Sea u s none [] p.2.1 p.2.2.1 p.2.2.2.1 p.2.2.2.2.1 p.2.2.2.2.2.1 p.2.2.2.2.2.2 ∧ p.2.2.2.1.length ≤ 1 + 1000 * p.2.2.2.2.1.length)
    (fun p => envO p.2.1.length p.2.2.1.length p.2.2.2.2.2.2) (fun p => ⟨p.1, frO u p.2.1 p.2.2.1 p.2.2.2.1⟩)
    (fun p => (20001 - p.2.2.2.2.1.length) * 1002 + p.2.2.2.1.length) (out, [s], [0], [(0, 0)], [], 0, -1) ⟨Sea.start hs, by simp⟩ ⟨rfl, rfl⟩ ?_
  rintro ⟨o, S, F, Q, dn, m, best⟩ ⟨hI, hQl⟩
  simp only at hI hQl
  have hdn : dn.length ≤ 20000 := Nat.le_trans hI.inv.dn_le hI.few
  refine ModH.mk [(3, 224)] (f48_spec Q Q.length) rfl rfl ⟨rfl, trivial⟩ ?_
  rintro _ _ ⟨rfl, rfl⟩
  refine And.intro rfl ?_
  refine And.intro (fun h1 => ?_) fun h1 => ?_
  rotate_left
  · have hQe : Q = [] := by
      have h1 := of_decide_eq_false h1
      exact List.eq_nil_of_length_eq_zero (by omega)
    subst hQe
    obtain ⟨hW, hb⟩ := hI.inv.done
    refine And.intro (fun h2 => ?_) fun h2 => ?_
    · have h2 : best < 0 := of_decide_eq_true h2
      rcases hb with ⟨_, hg⟩ | ⟨h0, _⟩
      · exact Exists.intro [] ⟨.none S hW hI.few hg, rfl⟩
      · omega
    · have h2 : ¬ best < 0 := of_decide_eq_false h2
      rcases hb with ⟨h0, _⟩ | ⟨h0, hc⟩
      · omega
      · exact Exists.intro [] ⟨.ok S hW hI.few best h0 hI.bst hc, rfl⟩
  have hQ0 : 0 < Q.length := by simpa using h1
  obtain ⟨x, Q', hspec, hperm, hHP, hmin, hQ'⟩ : ∃ x Q', SpecM Tryz.prog 49 [hQ] (frQ Q) [(1, 1)] (fun r ro => r = ifcQ x ∧ ro = frQ Q') ∧ Q.Perm (x :: Q') ∧ HP Q' Q'.length ∧ (∀ y ∈ Q, x.2 ≤ y.2) ∧ Q'.length = Q.length - 1 := by
    obtain ⟨g1, g2, g3, g4, g5⟩ := pop_spec hI.heap hQ0
    have gl : ((popL Q).take (Q.length - 1)).length = Q.length - 1 := by rw [List.length_take, g1]; omega
    exact ⟨_, _, f49_spec Q hQ0 (by omega), by rw [g2]; exact g3, by rw [gl]; exact g4, by rw [g2]; exact g5, gl⟩
  have hinv := hI.inv.perm hperm
  obtain ⟨xn, xc⟩ := x
  obtain ⟨n, f, hn, hf, hfx, hmx, hxC, _⟩ := hinv.qok (xn, xc) (List.mem_cons_self ..)
  simp only at hn hfx hmx hxC
  subst hn
  have hnF : n < F.length := (List.getElem?_eq_some_iff.1 hf).1
  have hnS : n < S.length := by rw [← hinv.len]; exact hnF
  have hminQ : ∀ y ∈ Q', xc ≤ y.2 := fun y hy => hmin y (hperm.mem_iff.2 (List.mem_cons_of_mem _ hy))
  have hfew := hI.few
  have hx0 : 0 ≤ xc := Int.le_trans hinv.mpos hmx
  have hxb : xc ≤ 2000000000 := by omega
  have hgF : (F.map tI)[0 + ((n : Nat) : Int).toNat]? = some (tI f) := by rw [Nat.zero_add, Int.toNat_natCast, List.getElem?_map, hf]; rfl
  obtain ⟨sx, hsx⟩ : ∃ sx, S[n]? = some sx := ⟨_, List.getElem?_eq_getElem hnS⟩
  have hgS : (S.map tSt)[0 + ((n : Nat) : Int).toNat]? = some (tSt sx) := by rw [Nat.zero_add, Int.toNat_natCast, List.getElem?_map, hsx]; rfl
  have hsr := hI.rise sx (List.mem_of_getElem? hsx)
  refine ModH.mk [(1, 240), (3, 224)] hspec rfl rfl ⟨rfl, rfl, trivial⟩ ?_
  rintro _ _ ⟨rfl, rfl⟩
  refine And.intro rfl ?_
  refine And.intro (fun _ => ?_) fun h => Bool.noConfusion h
  refine And.intro (by omega) (And.intro (by show (n : Int) < (F.length : Int); omega) ?_)
  refine Exists.intro _ (And.intro hgF ?_)
  refine And.intro (fun h2 => ?_) fun h2 => ?_
  · have h2 : f < xc := of_decide_eq_true h2
    refine Exists.intro ([], S, F, Q', dn, xc, best) (And.intro ?_ (And.intro ⟨⟨hinv.stale hminQ rfl hf h2, hHP, hI.rise, hI.few, hI.bst⟩, by simp only; omega⟩ (And.intro rfl rfl)))
    show (20001 - dn.length) * 1002 + Q'.length < (20001 - dn.length) * 1002 + Q.length
    omega
  have h2 : ¬ f < xc := of_decide_eq_false h2
  obtain ⟨hfe, hnd, hxl, hlive⟩ := hinv.live (by decide) hminQ rfl hsx hf h2
  simp only at hfe hxl hlive
  subst hfe
  refine And.intro (by omega) (And.intro (by show (n : Int) < (S.length : Int); omega) ?_)
  refine Exists.intro _ (And.intro hgS ?_)
  have inner : ∀ b' : Int, (if best < 0 ∧ holdsB sx u.goal = true then f else best) = b' → b' ≤ 2000000000 ∧ Sea u s (some n) [] S F Q' (n :: dn) f b' := fun b' hb' => by
    have hbst := hI.bst
    have : b' ≤ 2000000000 := by rw [← hb']; split <;> omega
    exact ⟨this, hb' ▸ hlive, hHP, hI.rise, hI.few, this⟩
  refine And.intro (fun h3 => ?a) fun h3 => ?b
  case' a =>
    refine SpecP.mono (f50_spec sx.isEmpty u.gn sx u.goal u.facts.length hsr (by omega) []) ?_
    rintro _ _ ⟨rfl, rfl⟩
    refine And.intro (fun h4 => ?c) fun h4 => ?d
  case' c =>
    let b' : Int := f
    obtain ⟨hbb, hSea⟩ := inner b' (if_pos ⟨of_decide_eq_true h3, h4⟩)
  case' d =>
    let b' : Int := best
    obtain ⟨hbb, hSea⟩ := inner b' (if_neg fun h => absurd (h.2.symm.trans h4) (by decide))
  case' b =>
    let b' : Int := best
    obtain ⟨hbb, hSea⟩ := inner b' (if_neg fun h => of_decide_eq_false h3 h.1)
  all_goals
    refine LoopX.mk (Nat × List Fr × List (List Int) × List Int × List Heap.Item)
      (fun p => p.1 ≤ u.acts.length ∧ Sea u s (some n) (succA u.facts.length sx (u.acts.take p.1)) p.2.2.1 p.2.2.2.1 p.2.2.2.2 (n :: dn) f b' ∧ p.2.2.1[n]? = some sx ∧ p.2.2.2.1[n]? = some f ∧ p.2.2.2.2.length ≤ Q'.length + p.1)
      (fun p => envO p.2.2.1.length p.2.2.2.1.length b' ++ [(11, .ptr (.cur 88) 0), (13, .ints sx.isEmpty sx), (68, .t (.sl u.an 4 (u.acts.map tAct))), (69, .int (u.acts.map tAct).length), (70, .int p.1)])
      (fun p => ⟨p.2.1, frO u p.2.2.1 p.2.2.2.1 p.2.2.2.2 ++ [(88, .box [.int (n : Int), .int f])]⟩) (fun p => u.acts.length - p.1) (0, [], S, F, Q') ⟨Nat.zero_le _, hSea, hsx, hf, Nat.le_refl _⟩ ⟨rfl, rfl⟩ ?_
    rintro ⟨k, o2, S2, F2, Q2⟩ ⟨hk0, hJ, hsx2, hf2, hQ2⟩
    simp only at hk0 hJ hsx2 hf2 hQ2
    have hdn2 : dn.length + 1 ≤ S2.length := hJ.inv.dn_le
    have hfew2 := hJ.few
    refine And.intro (fun h5 => ?_) fun h5 => ?_
    rotate_left
    · have hk : k = u.acts.length := by have := ge_of_dec h5; have : k ≤ u.acts.length := hk0; omega
      rw [hk, List.take_length] at hJ
      refine Exists.intro (o2, S2, F2, Q2, n :: dn, f, b') (And.intro ?_ (And.intro ⟨⟨hJ.inv.shut hsx2 rfl, hJ.heap, hJ.rise, hJ.few, hJ.bst⟩, ?_⟩ (And.intro rfl rfl)))
      · show (20001 - (dn.length + 1)) * 1002 + Q2.length < (20001 - dn.length) * 1002 + Q.length
        omega
      · show Q2.length ≤ 1 + 1000 * (dn.length + 1)
        omega
    have hk : k < u.acts.length := lt_of_dec h5
    have hem : u.acts[k] ∈ u.acts := List.getElem_mem hk
    have hcst := TK.cost _ hem
    have hstp := succA_step (n := u.facts.length) (s := sx) hk
    refine And.intro (by omega) (Exists.intro _ (And.intro (get_map hk) ?_))
    refine SpecP.mono (f50_spec sx.isEmpty u.acts[k].pn sx u.acts[k].pre u.facts.length hsr (by omega) []) ?_
    rintro _ _ ⟨rfl, rfl⟩
    refine And.intro (fun h6 => ?_) fun h6 => ?_
    rotate_left
    · have h6 : holdsB sx u.acts[k].pre = false := h6
      rw [h6, if_neg (by decide), List.append_nil] at hstp
      refine And.intro (by show (-9223372036854775808 : Int) ≤ (k : Int) + 1; omega) (And.intro (by show (k : Int) + 1 ≤ 9223372036854775807; omega) ?_)
      exact Exists.intro (k + 1, o2, S2, F2, Q2) (And.intro (by show u.acts.length - (k + 1) < u.acts.length - k; omega) (And.intro ⟨hk, hstp.symm ▸ hJ, hsx2, hf2, by show Q2.length ≤ Q'.length + (k + 1); omega⟩ (And.intro rfl rfl)))
    have h6 : holdsB sx u.acts[k].pre = true := h6
    rw [if_pos h6] at hstp
    have hE := succ_mem hk h6
    refine SpecP.mono (f51i_spec sx.isEmpty sx u.acts[k] u.facts.length hsr (by omega) (TK.lit _ hem) (by have := TK.effs _ hem; omega) []) ?_
    rintro _ _ ⟨rfl, rfl⟩
    have hLr : risingB (afterL u.facts.length sx u.acts[k].effs) u.facts.length = true := after_rising ..
    have hLl := rising_len hLr (by omega)
    generalize hL : afterL u.facts.length sx u.acts[k].effs = L at hstp hE hLr hLl
    refine SpecP.mono (f47_spec L.isEmpty L (rising_u hLr hN) hLl []) ?_
    rintro _ _ ⟨rfl, rfl⟩
    have hsame : ∀ y ∈ S2, sameK (keyV L) (keyV y) = decide (L = y) := fun y hy => same_key (rising_u hLr hN) (rising_u (hJ.rise y hy) hN)
    have hvb : f + u.acts[k].cost ≤ 100000 * (((n :: dn).length : Nat) : Int) := by simp only [List.length_cons]; omega
    by_cases hmem : L ∈ S2
    · obtain ⟨j, hj, hlk⟩ : ∃ j : Nat, S2[j]? = some L ∧ lookKV (keyV L) (.v (.int .i64 0)) (kvT S2) = .v (.int .i64 (j : Int)) := ⟨posG S2 L, posG_get hmem, by rw [look_kvG hsame, if_pos hmem, Nat.zero_add]⟩
      have hhas : hasKV (keyV L) (kvT S2) = true := by rw [has_kvG hsame]; simpa using hmem
      have hjS : j < S2.length := (List.getElem?_eq_some_iff.1 hj).1
      have hjF : j < F2.length := by rw [hJ.inv.len]; exact hjS
      obtain ⟨g, hg⟩ : ∃ g, F2[j]? = some g := ⟨_, List.getElem?_eq_getElem hjF⟩
      have hgF2 : (F2.map tI)[0 + ((j : Nat) : Int).toNat]? = some (tI g) := by rw [Nat.zero_add, Int.toNat_natCast, List.getElem?_map, hg]; rfl
      refine Exists.intro _ (Exists.intro _ (And.intro hlk (And.intro hhas ?_)))
      refine And.intro (fun _ => ?_) fun h => Bool.noConfusion h
      refine And.intro (by omega) (And.intro (by show (j : Int) < (F2.length : Int); omega) (Exists.intro _ (And.intro hgF2 ?_)))
      refine And.intro (by omega) (And.intro (by omega) ?_)
      refine And.intro (fun h8 => ?_) fun h8 => ?_
      · have h8 : g ≤ f + u.acts[k].cost := of_decide_eq_true h8
        have hnew := hJ.inv.skip hf2 hj hg h8
        rw [← hstp] at hnew
        refine And.intro (by show (-9223372036854775808 : Int) ≤ (k : Int) + 1; omega) (And.intro (by show (k : Int) + 1 ≤ 9223372036854775807; omega) ?_)
        exact Exists.intro (k + 1, o2, S2, F2, Q2) (And.intro (by show u.acts.length - (k + 1) < u.acts.length - k; omega) (And.intro ⟨hk, ⟨hnew, hJ.heap, hJ.rise, hJ.few, hJ.bst⟩, hsx2, hf2, by show Q2.length ≤ Q'.length + (k + 1); omega⟩ (And.intro rfl rfl)))
      · have h8 : ¬ g ≤ f + u.acts[k].cost := of_decide_eq_false h8
        have hlt : f + u.acts[k].cost < g := by omega
        have hnew := hJ.inv.less hcst.1 (succ_nonneg TK) hsx2 hf2 hE hvb hj hg hlt
        rw [← hstp] at hnew
        have hset : (F2.map tI).set (0 + ((j : Nat) : Int).toNat) (tI (f + u.acts[k].cost)) = (F2.set j (f + u.acts[k].cost)).map tI := by rw [Nat.zero_add, Int.toNat_natCast, List.map_set]
        have hgn : ((F2.map tI).set (0 + ((j : Nat) : Int).toNat) (tI (f + u.acts[k].cost)))[0 + ((j : Nat) : Int).toNat]? = some (tI (f + u.acts[k].cost)) := by
          rw [hset, Nat.zero_add, Int.toNat_natCast, List.getElem?_map, List.getElem?_set_self hjF]; rfl
        have hne : j ≠ n := by rintro rfl; rw [hf2] at hg; cases hg; omega
        obtain ⟨p1, p2, p3⟩ := push_spec (x := ((j : Int), f + u.acts[k].cost)) hJ.heap
        refine And.intro (by omega) (And.intro (by omega) ?_)
        refine And.intro (by omega) (And.intro (by show (j : Int) < (F2.length : Int); omega) (Exists.intro _ (And.intro hgF2 (And.intro (Nat.le_refl 1) ?_))))
        refine And.intro (by omega) (And.intro (by show (j : Int) < (F2.length : Int); omega) (Exists.intro _ (And.intro hgn ?_)))
        refine ModH.mk [(1, 240), (3, 224)] (f52_spec Q2 ((j : Int), f + u.acts[k].cost) (by omega)) rfl rfl ⟨rfl, rfl, trivial⟩ ?_
        rintro _ _ ⟨rfl, rfl⟩
        refine And.intro rfl ?_
        refine And.intro (by show (-9223372036854775808 : Int) ≤ (k : Int) + 1; omega) (And.intro (by show (k : Int) + 1 ≤ 9223372036854775807; omega) ?_)
        refine Exists.intro (k + 1, [], S2, F2.set j (f + u.acts[k].cost), pushL Q2 ((j : Int), f + u.acts[k].cost)) (And.intro (by show u.acts.length - (k + 1) < u.acts.length - k; omega) (And.intro ⟨hk, ⟨hnew.perm p1.symm, p3, hJ.rise, hJ.few, hJ.bst⟩, hsx2, ?_, by show (pushL Q2 _).length ≤ Q'.length + (k + 1); rw [p2]; omega⟩ ?_))
        · show (F2.set j _)[n]? = some f
          rw [List.getElem?_set_ne hne]; exact hf2
        exact And.intro (Eq.trans (b := envO S2.length F2.length b' ++ [(11, .ptr (.cur 88) 0), (13, .ints sx.isEmpty sx), (68, .t (.sl u.an 4 (u.acts.map tAct))), (69, .int (u.acts.map tAct).length), (70, .int ((k : Int) + 1))]) rfl
            (congrArg (fun z => envO S2.length z b' ++ [(11, .ptr (.cur 88) 0), (13, .ints sx.isEmpty sx), (68, .t (.sl u.an 4 (u.acts.map tAct))), (69, .int (u.acts.map tAct).length), (70, .int ((k : Int) + 1))]) (List.length_set ..).symm))
          (Eq.trans (b := (⟨[], frX u (kvT S2) (S2.map tSt) ((F2.map tI).set (0 + ((j : Nat) : Int).toNat) (tI (f + u.acts[k].cost))) (pushL Q2 ((j : Int), f + u.acts[k].cost)) ++ [(88, .box [.int (n : Int), .int f])]⟩ : St)) rfl
            (congrArg (fun z => (⟨[], frX u (kvT S2) (S2.map tSt) z (pushL Q2 ((j : Int), f + u.acts[k].cost)) ++ [(88, .box [.int (n : Int), .int f])]⟩ : St)) hset))
    · have hlk : lookKV (keyV L) (.v (.int .i64 0)) (kvT S2) = .v (.int .i64 0) := by rw [look_kvG hsame, if_neg hmem]
      have hhas : hasKV (keyV L) (kvT S2) = false := by rw [has_kvG hsame]; simpa using hmem
      refine Exists.intro _ (Exists.intro _ (And.intro hlk (And.intro hhas ?_)))
      refine And.intro (fun h => Bool.noConfusion h) fun _ => ?_
      refine And.intro (by omega) (And.intro (by omega) ?_)
      have hSl4 : ∀ X : List T, ((S2.map tSt).take S2.length ++ [X]).length ≤ 20001 := fun X => by rw [List.length_append, List.length_take, List.length_map, List.length_singleton]; omega
      have hFl4 : ∀ X : List T, ((F2.map tI).take F2.length ++ [X]).length ≤ 20001 := fun X => by rw [List.length_append, List.length_take, List.length_map, List.length_singleton, hJ.inv.len]; omega
      have hlo : -9223372036854775808 ≤ f + u.acts[k].cost := by omega
      have hhi : f + u.acts[k].cost ≤ 9223372036854775807 := by omega
      have hRS : (S2.map tSt).take S2.length ++ [tSt L] = (S2 ++ [L]).map tSt := by rw [List.take_of_length_le (by simp)]; simp
      have hRF : (F2.map tI).take F2.length ++ [tI (f + u.acts[k].cost)] = (F2 ++ [f + u.acts[k].cost]).map tI := by rw [List.take_of_length_le (by simp)]; simp
      have hFS : F2.length = S2.length := hJ.inv.len
      have hgL : ((F2 ++ [f + u.acts[k].cost]).map tI)[0 + ((S2.length : Nat) : Int).toNat]? = some (tI (f + u.acts[k].cost)) := by
        rw [Nat.zero_add, Int.toNat_natCast, List.getElem?_map, ← hFS, List.getElem?_append_right (Nat.le_refl _), Nat.sub_self]; rfl
      have hset : ((F2 ++ [f + u.acts[k].cost]).map tI).set (0 + ((S2.length : Nat) : Int).toNat) (tI (f + u.acts[k].cost)) = (F2 ++ [f + u.acts[k].cost]).map tI := by
        refine List.ext_getElem? fun q => ?_
        rw [List.getElem?_set]
        split
        · rename_i hq
          rw [← hq, hgL, if_pos]
          rw [List.length_map, List.length_append, Nat.zero_add, Int.toNat_natCast, hFS]; simp
        · rfl
      have hkv : updKV (keyV L) (.v (.int .i64 (S2.length : Int))) (kvT S2) = kvT (S2 ++ [L]) := by have := upd_kvG (k := 0) hsame hmem; rwa [Nat.zero_add] at this
      have hlast : (S2.length : Int) < ((((F2.map tI).take F2.length ++ [tI (f + u.acts[k].cost)]).length : Nat) : Int) := by rw [hRF, List.length_map, List.length_append, hFS]; simp; omega
      have hnewN : (S2 ++ [L]).Nodup := List.nodup_append.2 ⟨hJ.inv.nodup, by simp, fun a ha b hb => by simp at hb; subst hb; rintro rfl; exact hmem ha⟩
      have hfr := hJ.inv.fresh hcst.1 hsx2 hf2 hE hvb hmem
      rw [← hstp] at hfr
      obtain ⟨p1, p2, p3⟩ := push_spec (x := ((S2.length : Int), f + u.acts[k].cost)) hJ.heap
      have hn1 : (S2 ++ [L])[n]? = some sx := by rw [List.getElem?_append_left (List.getElem?_eq_some_iff.1 hsx2).1]; exact hsx2
      have hn2 : (F2 ++ [f + u.acts[k].cost])[n]? = some f := by rw [List.getElem?_append_left (List.getElem?_eq_some_iff.1 hf2).1]; exact hf2
      have hrs : ∀ x ∈ S2 ++ [L], risingB x u.facts.length = true := fun x hx => by
        rcases List.mem_append.1 hx with hx | hx
        · exact hJ.rise x hx
        · simp at hx; subst hx; exact hLr
      repeat' first
        | refine And.intro rfl ?_
        | refine And.intro (Nat.le_of_ble_eq_true rfl) ?_
        | refine And.intro hlo ?_
        | refine And.intro hhi ?_
        | refine And.intro (Nat.le_of_eq (List.length_map tSt).symm) ?_
        | refine And.intro (Nat.le_of_eq (List.length_map tI).symm) ?_
        | refine And.intro (Nat.le_trans (Nat.mul_le_mul_right _ (hSl4 _)) (Nat.le_of_ble_eq_true rfl)) ?_
        | refine And.intro (Nat.le_trans (hSl4 _) (Nat.le_of_ble_eq_true rfl)) ?_
        | refine And.intro (Nat.le_trans (Nat.mul_le_mul_right _ (hFl4 _)) (Nat.le_of_ble_eq_true rfl)) ?_
        | refine And.intro (Nat.le_trans (hFl4 _) (Nat.le_of_ble_eq_true rfl)) ?_
        | refine And.intro (Int.natCast_nonneg _) ?_
        | (refine And.intro (fun h9 => ?_) fun h9 => ?_; rotate_left)
        | refine And.intro hlast ?_
        | refine And.intro ?_ ?_
      all_goals
        first
          | (have h9 := of_decide_eq_true h9
             simp only [List.length_append, List.length_take, List.length_map, List.drop_zero] at h9
             exact Exists.intro [] ⟨.space (S2 ++ [L]) hnewN hfr.reach (by rw [List.length_append, List.length_singleton]; simp at h9; omega), rfl⟩)
          | (have h9 := of_decide_eq_false h9
             simp only [List.length_append, List.length_take, List.length_map, List.drop_zero] at h9
             have hfew3 : (S2 ++ [L]).length ≤ 20000 := by rw [List.length_append, List.length_singleton]; simp at h9; omega
             refine Exists.intro (tI (f + u.acts[k].cost)) (And.intro (by show ((F2.map tI).take F2.length ++ [tI (f + u.acts[k].cost)])[0 + ((S2.length : Nat) : Int).toNat]? = _; rw [hRF]; exact hgL) (And.intro (Nat.le_refl 1) ?_))
             refine And.intro (Int.natCast_nonneg _) (And.intro hlast ?_)
             refine Exists.intro (tI (f + u.acts[k].cost)) (And.intro (by show (((F2.map tI).take F2.length ++ [tI (f + u.acts[k].cost)]).set (0 + ((S2.length : Nat) : Int).toNat) (tI (f + u.acts[k].cost)))[0 + ((S2.length : Nat) : Int).toNat]? = _; rw [hRF, hset]; exact hgL) ?_)
             refine ModH.mk [(1, 240), (3, 224)] (f52_spec Q2 ((S2.length : Int), f + u.acts[k].cost) (by omega)) rfl rfl ⟨rfl, rfl, trivial⟩ ?_
             rintro _ _ ⟨rfl, rfl⟩
             refine And.intro rfl ?_
             refine And.intro (by show (-9223372036854775808 : Int) ≤ (k : Int) + 1; omega) (And.intro (by show (k : Int) + 1 ≤ 9223372036854775807; omega) ?_)
             refine Exists.intro (k + 1, [], S2 ++ [L], F2 ++ [f + u.acts[k].cost], pushL Q2 ((S2.length : Int), f + u.acts[k].cost)) (And.intro (by show u.acts.length - (k + 1) < u.acts.length - k; omega) (And.intro ⟨hk, ⟨hfr.perm p1.symm, p3, hrs, hfew3, hJ.bst⟩, hn1, hn2, by show (pushL Q2 _).length ≤ Q'.length + (k + 1); rw [p2]; omega⟩ ?_))
             exact And.intro (Eq.trans (b := envO ((S2.map tSt).take S2.length ++ [tSt L]).length ((F2.map tI).take F2.length ++ [tI (f + u.acts[k].cost)]).length b' ++ [(11, .ptr (.cur 88) 0), (13, .ints sx.isEmpty sx), (68, .t (.sl u.an 4 (u.acts.map tAct))), (69, .int (u.acts.map tAct).length), (70, .int ((k : Int) + 1))]) rfl
                 (by rw [hRS, hRF, List.length_map, List.length_map]; rfl))
               (Eq.trans (b := (⟨[], frX u (updKV (keyV L) (.v (.int .i64 (S2.length : Int))) (kvT S2)) ((S2.map tSt).take S2.length ++ [tSt L]) (((F2.map tI).take F2.length ++ [tI (f + u.acts[k].cost)]).set (0 + ((S2.length : Nat) : Int).toNat) (tI (f + u.acts[k].cost))) (pushL Q2 ((S2.length : Int), f + u.acts[k].cost)) ++ [(88, .box [.int (n : Int), .int f])]⟩ : St)) rfl
                 (by rw [hkv, hRS, hRF, hset])))

end Go.Fw

/- What the program's functions do: projections of tasks and of states, and what they cost. -/
namespace Go.Fw
open Go Go.Proofs
set_option maxRecDepth 10000

abbrev nilV : LV := .t (.sl true 0 [])
theorem posI_in {p : List Int} {x : Int} (h : hasB p x = true) : 0 ≤ posI p x ∧ posI p x < (p.length : Int) := by
  have := posG_lt (hasB_mm.1 h)
  rw [posI, if_pos h]; omega
theorem posI_get {p : List Int} {x : Int} (h : hasB p x = true) : p[(posI p x).toNat]? = some x := by
  rw [posI, if_pos h, Int.toNat_natCast]; exact posG_get (hasB_mm.1 h)
theorem posI_lt {p : List Int} (hp : p.Pairwise (· < ·)) {x y : Int} (hx : hasB p x = true) (hy : hasB p y = true) (h : x < y) : posI p x < posI p y := by
  have h1 := posG_get (hasB_mm.1 hx)
  have h2 := posG_get (hasB_mm.1 hy)
  rw [posI, posI, if_pos hx, if_pos hy]
  rcases Nat.lt_trichotomy (posG p x) (posG p y) with hlt | heq | hgt
  · omega
  · rw [heq, h2] at h1; cases h1; omega
  · obtain ⟨l1, e1⟩ := List.getElem?_eq_some_iff.1 h1
    obtain ⟨l2, e2⟩ := List.getElem?_eq_some_iff.1 h2
    have := List.pairwise_iff_getElem.1 hp _ _ l2 l1 hgt
    omega
theorem rising_le {l : List Int} {n : Nat} (h : risingB l n = true) : l.length ≤ n := by
  have hin := rising_in h
  have hnd : l.Nodup := rising_nodup h
  have := Dij.nodup_sub (S' := (List.range n).map Int.ofNat) hnd fun x hx => by
    have := hin x hx
    exact List.mem_map.2 ⟨x.toNat, List.mem_range.2 (by omega), Int.toNat_of_nonneg this.1⟩
  simpa using this
theorem facts_rising {p s : List Int} {n : Int} (hp : p.Pairwise (· < ·)) (hs : risingB s n = true) : risingB (factsL p s) p.length = true := by
  refine rising_of ?_ fun x hx => ?_
  · refine List.pairwise_map.2 ?_
    refine List.Pairwise.imp_of_mem (fun {a b} ha hb h => ?_) ((rising_inc hs).filter (hasB p))
    exact posI_lt hp (List.mem_filter.1 ha).2 (List.mem_filter.1 hb).2 h
  · obtain ⟨y, hy, rfl⟩ := List.mem_map.1 hx
    exact posI_in (List.mem_filter.1 hy).2
theorem lits_in {p : List Int} {l : List Lit} : ∀ x ∈ litsL p l, litIn p.length x := fun x hx => by
  obtain ⟨y, hy, rfl⟩ := List.mem_map.1 hx
  exact posI_in (List.mem_filter.1 hy).2
theorem projT_ok {t : Task} {p : List Int} (TK : TaskOK t) (hp : risingB p t.facts.length = true) : TaskOK (projT t p) := by
  have hl : (projT t p).facts.length = p.length := List.length_map ..
  have hpl := rising_le hp
  have hf := TK.facts
  have act : ∀ x ∈ (projT t p).acts, ∃ a ∈ t.acts, x = projA p a := fun x hx => by
    obtain ⟨a, ha, rfl⟩ := List.mem_map.1 hx; exact ⟨a, ha, rfl⟩
  have eff : ∀ {a : Actn} {e : Eff}, e ∈ (projA p a).effs → ∃ e0 ∈ a.effs, hasB p e0.lit.fact = true ∧ e = projE p e0 := fun {a e} he => by
    obtain ⟨e0, h0, rfl⟩ := List.mem_map.1 he
    exact ⟨e0, (List.mem_filter.1 h0).1, (List.mem_filter.1 h0).2, rfl⟩
  refine ⟨by rw [hl]; omega, by show (t.acts.map _).length ≤ _; rw [List.length_map]; exact TK.acts, ?_, fun x hx => ?_, fun x hx => ?_, fun x hx => ?_, fun x hx e he => ?_, fun x hx e he => ?_⟩
  · rw [hl]; exact lits_in
  · obtain ⟨a, ha, rfl⟩ := act x hx
    exact Nat.le_trans (projEs_len p a.effs) (TK.effs a ha)
  · obtain ⟨a, ha, rfl⟩ := act x hx
    exact TK.cost a ha
  · obtain ⟨a, ha, rfl⟩ := act x hx
    rw [hl]; exact lits_in
  · obtain ⟨a, ha, rfl⟩ := act x hx
    obtain ⟨e0, _, h1, rfl⟩ := eff he
    rw [hl]; exact posI_in h1
  · obtain ⟨a, ha, rfl⟩ := act x hx
    obtain ⟨e0, _, h1, rfl⟩ := eff he
    rw [hl]; exact lits_in

theorem asks_ok {t : Task} {w : Bool} {l : List (Bool × List Int)} (h : asksI t w l = 0) : isB t = true ∧ ∀ p ∈ l, fineB t w p.2 = true := by
  unfold asksI at h
  split at h
  · rename_i h1
    split at h
    · cases h
    · rename_i h2
      refine ⟨h1, fun p hp => ?_⟩
      have := List.any_eq_false.1 ((Bool.not_eq_true _).mp h2) p hp
      simpa using this
  · cases h
theorem given_ok {t : Task} {s : List Int} {l : List (Bool × List Int)} (h : givenI t s l = 0) : isB t = true ∧ risingB s t.facts.length = true ∧ ∀ p ∈ l, risingB p.2 t.facts.length = true ∧ closedB t p.2 = true := by
  unfold givenI at h
  split at h
  · rename_i h1
    obtain ⟨h2, h3⟩ := asks_ok h
    refine ⟨h2, ?_, fun p hp => ?_⟩
    · unfold fineI at h1
      rw [if_pos h2] at h1
      split at h1
      · assumption
      · cases h1
    · have := h3 p hp
      simpa [fineB] using this
  · contradiction

/-- The projection of a task, or the error. -/
inductive TaskR (t : Task) (n1 : Bool) (p : List Int) : LV → Prop
  | bad (h : asksI t true [(n1, p)] ≠ 0) : TaskR t n1 p (.tup [.agg [.t (.sl true 0 []), .t (.sl true 0 []), .t (.sl true 0 []), .t (.sl true 0 [])], .int (asksI t true [(n1, p)])])
  | ok (h : asksI t true [(n1, p)] = 0) : TaskR t n1 p (.tup [.task (projT t p), .int 0])
theorem f18_spec (t : Task) (n1 : Bool) (p : List Int) (out : List Fr) : SpecP Tryz.prog 18 [.task t, .ints n1 p] out fun r ro => TaskR t n1 p r ∧ ro = [] := by
  refine spec_body cx_ok [] [] (fn := Tryz.f18) (by kernel_rfl) rfl (by kernel_rfl) rfl (by unfold FnOK; kernel_rfl) fun hok => ?_
  refine Exists.intro (tLs [(n1, p)]) (And.intro rfl (And.intro (Nat.le_of_ble_eq_true rfl) ?_))
  refine SpecP.mono (f36_spec t true false [(n1, p)] _) ?_
  rintro _ _ ⟨rfl, rfl⟩
  refine And.intro trivial (And.intro trivial ?_)
  refine And.intro (fun h1 => ?_) fun h1 => ?_
  · have h1 : asksI t true [(n1, p)] ≠ 0 := by simpa using h1
    exact Exists.intro [] ⟨.bad h1, rfl⟩
  have h1 : asksI t true [(n1, p)] = 0 := by simpa using h1
  obtain ⟨h2, h3⟩ := asks_ok h1
  have h4 : risingB p t.facts.length = true := by have := h3 _ (List.mem_singleton.2 rfl); simp [fineB] at this; exact this.1
  refine SpecP.mono (f26_spec t n1 p h2 h4 []) ?_
  rintro _ _ ⟨rfl, rfl⟩
  exact Exists.intro [] ⟨.ok h1, rfl⟩

/-- The projection of a state, or the error. -/
inductive StateR (t : Task) (n1 : Bool) (p s : List Int) : LV → Prop
  | bad (h : givenI t s [(n1, p)] ≠ 0) : StateR t n1 p s (.tup [nilV, .int (givenI t s [(n1, p)])])
  | ok (h : givenI t s [(n1, p)] = 0) : StateR t n1 p s (.tup [.ints (factsL p s).isEmpty (factsL p s), .int 0])
/-- The cost of a projection, or the error. -/
inductive CostR (t : Task) (n1 : Bool) (p s : List Int) : LV → Prop
  | bad (h : givenI t s [(n1, p)] ≠ 0) : CostR t n1 p s (.tup [.int 0, .int (givenI t s [(n1, p)])])
  | ok (h : givenI t s [(n1, p)] = 0) (r : LV) (hr : OptR (projT t p) (factsL p s) r) : CostR t n1 p s r
theorem optR_pair {u : Task} {s : List Int} {r : LV} (h : OptR u s r) : ∃ a e : Int, r = .tup [.int a, .int e] := by
  cases h <;> exact ⟨_, _, rfl⟩
theorem f12_spec (t : Task) (n1 n2 : Bool) (p s : List Int) (out : List Fr) : SpecP Tryz.prog 12 [.task t, .ints n1 p, .ints n2 s] out fun r ro => CostR t n1 p s r ∧ ro = [] := by
  refine spec_body cx_ok [] [] (fn := Tryz.f12) (by kernel_rfl) rfl (by kernel_rfl) rfl (by unfold FnOK; kernel_rfl) fun hok => ?_
  refine Exists.intro (tLs [(n1, p)]) (And.intro rfl (And.intro (Nat.le_of_ble_eq_true rfl) ?_))
  refine SpecP.mono (f24_spec t n2 false s [(n1, p)] _) ?_
  rintro _ _ ⟨rfl, rfl⟩
  refine And.intro trivial (And.intro trivial ?_)
  refine And.intro (fun h1 => ?_) fun h1 => ?_
  · have h1 : givenI t s [(n1, p)] ≠ 0 := by simpa using h1
    exact Exists.intro [] ⟨.bad h1, rfl⟩
  have h1 : givenI t s [(n1, p)] = 0 := by simpa using h1
  obtain ⟨h2, h3, h4⟩ := given_ok h1
  have h5 := (h4 _ (List.mem_singleton.2 rfl)).1
  have TK := task_ok h2
  refine SpecP.mono (f26_spec t n1 p h2 h5 []) ?_
  rintro _ _ ⟨rfl, rfl⟩
  refine SpecP.mono (f28_spec n1 p (rising_nodup h5) []) ?_
  rintro _ _ ⟨rfl, rfl⟩
  refine SpecP.mono (f27_spec n2 p s _ (pl 176 48) rfl (rising_len h3 (by have := TK.facts; omega)) _) ?_
  rintro _ _ ⟨rfl, rfl⟩
  have hl : (projT t p).facts.length = p.length := List.length_map ..
  refine SpecP.mono (f25_spec (projT t p) (factsL p s) (projT_ok TK h5) (by rw [hl]; exact facts_rising (rising_inc h5) h3) []) ?_
  rintro r _ ⟨hr, rfl⟩
  obtain ⟨a, e, rfl⟩ := optR_pair hr
  exact Exists.intro [] ⟨.ok h1 _ hr, rfl⟩

end Go.Fw

/- What the program's functions do: additive patterns. -/
namespace Go.Fw
open Go Go.Proofs
set_option maxRecDepth 10000

/-- Does an action have an effect on a fact of a pattern? -/
def touchB (a : Actn) (p : List Int) : Bool := a.effs.any fun e => hasB p e.lit.fact
def addB (t : Task) (l : List (Bool × List Int)) : Bool := t.acts.all fun a => decide (l.countP (fun p => touchB a p.2) ≤ 1)

theorem countP_one {α : Type} {q : α → Bool} : ∀ {l : List α}, (∀ i j (hi : i < l.length) (hj : j < l.length), q l[i] = true → q l[j] = true → i = j) → l.countP q ≤ 1
  | [], _ => by simp
  | x :: r, h => by
    rw [List.countP_cons]
    by_cases hx : q x = true
    · have : r.countP q = 0 := by
        rw [List.countP_eq_zero]
        intro y hy hq
        obtain ⟨k, hk, rfl⟩ := List.getElem_of_mem hy
        have := h 0 (k + 1) (by simp) (by simpa using hk) hx hq
        omega
      rw [this, if_pos hx]; exact Nat.le_refl 1
    · rw [if_neg hx]
      have := countP_one (l := r) fun i j hi hj h1 h2 => by
        have := h (i + 1) (j + 1) (by simpa using hi) (by simpa using hj) h1 h2
        omega
      omega
theorem countP_two {α : Type} {q : α → Bool} : ∀ {l : List α} {i j : Nat} (hi : i < l.length) (hj : j < l.length), q l[i] = true → q l[j] = true → i ≠ j → 2 ≤ l.countP q
  | [], i, _, hi, _, _, _, _ => by simp at hi
  | x :: r, 0, 0, _, _, _, _, h => absurd rfl h
  | x :: r, 0, j + 1, _, hj, h1, h2, _ => by
    have : 0 < r.countP q := List.countP_pos_iff.2 ⟨_, List.getElem_mem (by simpa using hj), h2⟩
    have h1 : q x = true := h1
    rw [List.countP_cons, if_pos h1]; omega
  | x :: r, i + 1, 0, hi, _, h1, h2, _ => by
    have : 0 < r.countP q := List.countP_pos_iff.2 ⟨_, List.getElem_mem (by simpa using hi), h1⟩
    have h2 : q x = true := h2
    rw [List.countP_cons, if_pos h2]; omega
  | x :: r, i + 1, j + 1, hi, hj, h1, h2, h => by
    have := countP_two (l := r) (i := i) (j := j) (by simpa using hi) (by simpa using hj) h1 h2 (by omega)
    rw [List.countP_cons]; omega

/-! ### The patterns of each fact -/
def wG (l : List Int) : GR := match l with
  | [] => .nil
  | x :: r => .row ((x :: r).map tI)
def gG (O : List (List Int)) : List GR := O.map wG
/-- The patterns among the first ones, and a part of one more, that contain a fact. -/
def ofP (l : List (Bool × List Int)) (i : Nat) (q : List Int) (f : Nat) : List Int :=
  (((List.range i).filter fun k => match l[k]? with | some p => hasB p.2 (f : Int) | none => false).map Int.ofNat) ++ if hasB q (f : Int) = true then [(i : Int)] else []
def ofL (n : Nat) (l : List (Bool × List Int)) (i : Nat) (q : List Int) : List (List Int) := (List.range n).map (ofP l i q)
theorem ofP_len (l : List (Bool × List Int)) (i : Nat) (q : List Int) (f : Nat) : (ofP l i q f).length ≤ i + 1 := by
  unfold ofP
  rw [List.length_append, List.length_map]
  have := List.length_filter_le (fun k => match l[k]? with | some p => hasB p.2 (f : Int) | none => false) (List.range i)
  rw [List.length_range] at this
  split <;> simp <;> omega
theorem ofP_full {l : List (Bool × List Int)} {i : Nat} (hi : i < l.length) (f : Nat) : ofP l i l[i].2 f = ofP l (i + 1) [] f := by
  unfold ofP
  rw [List.range_succ, List.filter_append, List.map_append]
  simp only [List.filter_cons, List.filter_nil, List.getElem?_eq_getElem hi]
  have : hasB [] (f : Int) = false := rfl
  cases h : hasB l[i].2 (f : Int) <;> simp [this]
theorem ofP_mem {l : List (Bool × List Int)} {i f : Nat} {z : Int} : z ∈ ofP l i [] f ↔ ∃ k : Nat, z = (k : Int) ∧ k < i ∧ ∃ p, l[k]? = some p ∧ hasB p.2 (f : Int) = true := by
  unfold ofP
  have : hasB [] (f : Int) = false := rfl
  rw [this, if_neg (by decide), List.append_nil]
  simp only [List.mem_map, List.mem_filter, List.mem_range]
  constructor
  · rintro ⟨k, ⟨h1, h2⟩, rfl⟩
    split at h2
    · rename_i p hp; exact ⟨k, rfl, h1, p, hp, h2⟩
    · cases h2
  · rintro ⟨k, rfl, h1, p, hp, h2⟩
    exact ⟨k, ⟨h1, by rw [hp]; exact h2⟩, rfl⟩
theorem gG_get {n : Nat} {l : List (Bool × List Int)} {i : Nat} {q : List Int} {f : Nat} (hf : f < n) : (gG (ofL n l i q))[0 + ((f : Nat) : Int).toNat]? = some (wG (ofP l i q f)) := by
  rw [Nat.zero_add, Int.toNat_natCast, gG, ofL, List.getElem?_map, List.getElem?_map, List.getElem?_range hf]; rfl
theorem gG_len (n : Nat) (l : List (Bool × List Int)) (i : Nat) (q : List Int) : (gG (ofL n l i q)).length = n := by simp [gG, ofL]
theorem gG_set {n : Nat} {l : List (Bool × List Int)} {i : Nat} {q : List Int} {f : Nat} {x : Int} (hf : f < n) (hx : x = (f : Int)) (hq : hasB q x = false) :
    (gG (ofL n l i q)).set (0 + ((f : Nat) : Int).toNat) (wG (ofP l i q f ++ [(i : Int)])) = gG (ofL n l i (q ++ [x])) := by
  subst hx
  rw [Nat.zero_add, Int.toNat_natCast]
  refine List.ext_getElem? fun k => ?_
  rw [List.getElem?_set]
  by_cases hk : k < n
  · have e : ∀ q', (gG (ofL n l i q'))[k]? = some (wG (ofP l i q' k)) := fun q' => by have := gG_get (l := l) (i := i) (q := q') hk; rwa [Nat.zero_add, Int.toNat_natCast] at this
    rw [e, e]
    split
    · rename_i hfk
      subst hfk
      rw [if_pos (by rw [gG_len]; exact hf)]
      congr 2
      unfold ofP
      rw [hq, if_neg (by decide), List.append_nil, hasB_snoc, hq]
      simp
    · rename_i hfk
      congr 2
      unfold ofP
      rw [hasB_snoc]
      have : ((f : Int) == (k : Int)) = false := by simp; omega
      rw [this, Bool.or_false]
  · rw [List.getElem?_eq_none (by rw [gG_len]; omega), List.getElem?_eq_none (by rw [gG_len]; omega)]
    split
    · rw [if_neg (by rw [gG_len]; omega)]
    · rfl

/-- The patterns that the first effects of an action touch. -/
def Tch (l : List (Bool × List Int)) (a : Actn) (k : Nat) (i : Nat) : Prop := ∃ (m : Nat) (e : Eff) (p : Bool × List Int), m < k ∧ a.effs[m]? = some e ∧ l[i]? = some p ∧ hasB p.2 e.lit.fact = true
theorem Tch.touch {l : List (Bool × List Int)} {a : Actn} {k i : Nat} (h : Tch l a k i) : ∃ hi : i < l.length, touchB a l[i].2 = true := by
  obtain ⟨m, e, p, _, h2, h3, h4⟩ := h
  obtain ⟨hi, rfl⟩ := List.getElem?_eq_some_iff.1 h3
  exact ⟨hi, List.any_eq_true.2 ⟨e, List.mem_of_getElem? h2, h4⟩⟩
theorem touch_Tch {l : List (Bool × List Int)} {a : Actn} {i : Nat} (hi : i < l.length) (h : touchB a l[i].2 = true) : Tch l a a.effs.length i := by
  obtain ⟨e, he, hb⟩ := List.any_eq_true.1 h
  obtain ⟨m, hm, rfl⟩ := List.getElem_of_mem he
  exact ⟨m, _, _, hm, List.getElem?_eq_getElem hm, List.getElem?_eq_getElem hi, hb⟩
/-- What has been met of an action: the patterns, and how it is kept. -/
def Met (T : Nat → Prop) (m : Int) : Prop := (m = -1 ∧ ∀ i, ¬ T i) ∨ ∃ k : Nat, m = (k : Int) ∧ T k ∧ ∀ i, T i → i = k

def kq48 : Kp := [(3, ([2, 5, 21, 22, 23], [16, 160])), (6, ([2, 5, 6, 21, 22, 23, 28, 29, 30], [16, 160])), (12, ([5, 47, 48, 49], [16, 160])), (16, ([5, 12, 47, 48, 49, 54, 55, 56], [16, 160])), (19, ([5, 12, 47, 48, 49, 54, 55, 56, 65, 66, 67], [16, 160]))]
theorem f29_spec (t : Task) (n1 : Bool) (l : List (Bool × List Int)) (TK : TaskOK t) (hp : ∀ p ∈ l, risingB p.2 t.facts.length = true) (hl : l.length ≤ 1000000000) (out : List Fr) :
    SpecP Tryz.prog 29 [.task t, .t (.sl n1 1 (tLs l))] out fun r ro => r = .bool (addB t l) ∧ ro = [] := by
  refine spec_body cx_ok kq48 [] (fn := Tryz.f29) (by kernel_rfl) rfl (by kernel_rfl) rfl (by unfold FnOK; kernel_rfl) fun hok => ?_
  have hN := TK.facts
  have hA := TK.acts
  have hfl : (t.facts.map tS).length = t.facts.length := List.length_map ..
  have hz : gG (ofL (t.facts.map tS).length l 0 []) = List.replicate (t.facts.map tS).length .nil := by
    unfold gG ofL
    rw [List.map_map, ← List.length_range (n := (t.facts.map tS).length), List.eq_replicate_iff]
    refine ⟨by simp, fun b hb => ?_⟩
    obtain ⟨f, _, rfl⟩ := List.mem_map.1 hb
    rfl
  refine And.intro rfl (And.intro (Int.natCast_nonneg _) (And.intro (by show (((t.facts.map tS).length : Nat) : Int) * 24 ≤ _; omega) (And.intro (by omega) ?_)))
  refine LoopW.mk Nat (fun i => i ≤ l.length) (fun i => [(2, .ptr (.cur 16) 0), (5, .osl (.cur 160) 1 0 (t.facts.map tS).length), (21, .t (.sl n1 1 (tLs l))), (22, .int (tLs l).length), (23, .int i)])
    (fun i => ⟨out, [(16, .box (cellsTask t)), (160, .grid 23 3 1 (gG (ofL (t.facts.map tS).length l i [])))]⟩) (fun i => l.length - i) 0 (Nat.zero_le _) ⟨rfl, ?_⟩ fun i hi0 => ?_
  · show _ = (⟨out, [(16, .box (cellsTask t)), (160, .grid 23 3 1 (gG (ofL (t.facts.map tS).length l 0 [])))]⟩ : St)
    rw [hz]; rfl
  refine And.intro (fun h1 => ?_) fun h1 => ?_
  · have hi : i < l.length := by have := of_decide_eq_true h1; rw [tLs_len] at this; omega
    have hpi := hp _ (List.getElem_mem hi)
    have hin := rising_in hpi
    have hpl := rising_len hpi (by omega)
    refine And.intro (by omega) (Exists.intro _ (And.intro (tLs_get hi) ?_))
    refine LoopW.mk Nat (fun k => k ≤ l[i].2.length) (fun k => [(2, .ptr (.cur 16) 0), (5, .osl (.cur 160) 1 0 (t.facts.map tS).length), (6, .int i), (21, .t (.sl n1 1 (tLs l))), (22, .int (tLs l).length), (23, .int i), (28, .ints l[i].1 l[i].2), (29, .int (l[i].2.map tI).length), (30, .int k)])
      (fun k => ⟨out, [(16, .box (cellsTask t)), (160, .grid 23 3 1 (gG (ofL (t.facts.map tS).length l i (l[i].2.take k))))]⟩) (fun k => l[i].2.length - k) 0 (Nat.zero_le _) ⟨rfl, ?_⟩ fun k hk0 => ?_
    · rw [List.take_zero]
    refine And.intro (fun h2 => ?_) fun h2 => ?_
    · have hk : k < l[i].2.length := lt_of_dec h2
      obtain ⟨f, hf⟩ : ∃ f : Nat, l[i].2[k] = (f : Int) := ⟨l[i].2[k].toNat, by have := (hin _ (List.getElem_mem hk)).1; omega⟩
      have hfn : f < (t.facts.map tS).length := by have := (hin _ (List.getElem_mem hk)).2; rw [hf] at this; omega
      have hq : hasB (l[i].2.take k) (f : Int) = false := by
        cases hb : hasB (l[i].2.take k) (f : Int) with
        | false => rfl
        | true =>
          obtain ⟨j, hj, he⟩ := List.getElem_of_mem (hasB_mm.1 hb)
          have hj2 : j < k := by rw [List.length_take] at hj; omega
          rw [List.getElem_take] at he
          exact absurd (he.trans hf.symm) (List.pairwise_iff_getElem.1 (rising_nodup hpi) j k (by omega) hk hj2)
      have hset := gG_set (l := l) (i := i) (q := l[i].2.take k) hfn rfl hq
      have htk : l[i].2.take k ++ [(f : Int)] = l[i].2.take (k + 1) := by rw [List.take_add_one, List.getElem?_eq_getElem hk, hf]; rfl
      rw [htk] at hset
      have hcur := gG_get (l := l) (i := i) (q := l[i].2.take k) hfn
      have hwl := ofP_len l i (l[i].2.take k) f
      refine And.intro (by omega) (Exists.intro (tI f) (And.intro (by rw [← hf]; exact get_map hk) ?_))
      refine And.intro (by omega) (And.intro (by omega) (Exists.intro _ (And.intro hcur ?_)))
      generalize hw : ofP l i (l[i].2.take k) f = w at hset hcur hwl
      cases w with
      | nil =>
        refine And.intro (Nat.le_refl 1) (And.intro (Nat.le_of_ble_eq_true rfl) (And.intro (Nat.le_of_ble_eq_true rfl) ?_))
        refine And.intro (by omega) (And.intro (by omega) (And.intro rfl (And.intro (by rw [gG_len, Nat.zero_add, Int.toNat_natCast]; exact hfn) ?_)))
        refine And.intro (by show (-9223372036854775808 : Int) ≤ (k : Int) + 1; omega) (And.intro (by show (k : Int) + 1 ≤ 9223372036854775807; omega) ?_)
        refine Exists.intro (k + 1) (And.intro (by show l[i].2.length - (k + 1) < l[i].2.length - k; omega) (And.intro hk (And.intro rfl ?_)))
        show _ = (⟨out, [(16, .box (cellsTask t)), (160, .grid 23 3 1 (gG (ofL (t.facts.map tS).length l i (l[i].2.take (k + 1)))))]⟩ : St)
        rw [← hset]; rfl
      | cons y r =>
        refine And.intro (Nat.le_refl 1) (Exists.intro _ (And.intro hcur (And.intro rfl ?_)))
        have hl9 : ∀ X : List T, (((y :: r).map tI) ++ [X]).length ≤ 1000000002 := fun X => by rw [List.length_append, List.length_map]; simp only [List.length_singleton]; omega
        refine And.intro (Nat.le_trans (Nat.mul_le_mul_right _ (hl9 _)) (Nat.le_of_ble_eq_true rfl)) (And.intro (Nat.le_trans (hl9 _) (Nat.le_of_ble_eq_true rfl)) ?_)
        refine And.intro (by omega) (And.intro (by omega) (And.intro rfl ?_))
        refine And.intro (by show 0 + ((f : Nat) : Int).toNat < (List.set _ _ _).length; rw [List.length_set, gG_len, Nat.zero_add, Int.toNat_natCast]; exact hfn) ?_
        refine And.intro (by show (-9223372036854775808 : Int) ≤ (k : Int) + 1; omega) (And.intro (by show (k : Int) + 1 ≤ 9223372036854775807; omega) ?_)
        refine Exists.intro (k + 1) (And.intro (by show l[i].2.length - (k + 1) < l[i].2.length - k; omega) (And.intro hk (And.intro rfl ?_)))
        have e : (y :: r).map tI ++ [tI (i : Int)] = ((y :: r) ++ [(i : Int)]).map tI := by simp
        have hset2 : ((gG (ofL (t.facts.map tS).length l i (l[i].2.take k))).set (0 + ((f : Nat) : Int).toNat) .out).set (0 + ((f : Nat) : Int).toNat) (.row ((y :: r).map tI ++ [tI (i : Int)])) = gG (ofL (t.facts.map tS).length l i (l[i].2.take (k + 1))) := by
          rw [List.set_set, ← hset, e]; rfl
        show _ = (⟨out, [(16, .box (cellsTask t)), (160, .grid 23 3 1 (gG (ofL (t.facts.map tS).length l i (l[i].2.take (k + 1)))))]⟩ : St)
        rw [← hset2]; rfl
    · have hk : k = l[i].2.length := by have := ge_of_dec h2; omega
      refine And.intro (by omega) (And.intro (by omega) ?_)
      refine Exists.intro (i + 1) (And.intro (by show l.length - (i + 1) < l.length - i; omega) (And.intro hi (And.intro rfl ?_)))
      have e : ofL (t.facts.map tS).length l (i + 1) [] = ofL (t.facts.map tS).length l i (l[i].2.take k) := by
        unfold ofL
        rw [hk, List.take_length]
        exact List.map_congr_left fun f _ => (ofP_full hi f).symm
      show _ = (⟨out, [(16, .box (cellsTask t)), (160, .grid 23 3 1 (gG (ofL (t.facts.map tS).length l (i + 1) [])))]⟩ : St)
      rw [e]
  have hi : i = l.length := by have := of_decide_eq_false h1; rw [tLs_len] at this; omega
  subst hi
  clear h1 hi0
  have hlm : (l.length : Int) ≤ 1000000000 := by omega
  refine LoopW.mk Nat (fun i => i ≤ t.acts.length ∧ ∀ k (hk : k < t.acts.length), k < i → l.countP (fun p => touchB t.acts[k] p.2) ≤ 1) (fun i => [(5, .osl (.cur 160) 1 0 (t.facts.map tS).length), (47, .t (.sl t.an 4 (t.acts.map tAct))), (48, .int (t.acts.map tAct).length), (49, .int i)])
    (fun _ => ⟨out, [(16, .box (cellsTask t)), (160, .grid 23 3 1 (gG (ofL (t.facts.map tS).length l l.length [])))]⟩) (fun i => t.acts.length - i) 0 ⟨Nat.zero_le _, fun k _ h => by omega⟩ ⟨rfl, rfl⟩ fun i hI => ?_
  refine And.intro (fun h1 => ?_) fun h1 => ?_
  rotate_left
  · have hi : t.acts.length ≤ i := ge_of_dec h1
    refine Exists.intro [] (ret_bool ?_ rfl)
    refine (List.all_eq_true.2 fun a ha => ?_ : addB t l = true)
    obtain ⟨k, hk, rfl⟩ := List.getElem_of_mem ha
    exact decide_eq_true (hI.2 k hk (by omega))
  have hi := lt_of_dec h1
  have hem : t.acts[i] ∈ t.acts := List.getElem_mem hi
  have hel := TK.effs _ hem
  have no : ∀ x y : Nat, x ≠ y → Tch l t.acts[i] t.acts[i].effs.length x → Tch l t.acts[i] t.acts[i].effs.length y → addB t l = false := fun x y hxy h1 h2 => by
    obtain ⟨hx, tx⟩ := h1.touch
    obtain ⟨hy, ty⟩ := h2.touch
    have := countP_two (q := fun p : Bool × List Int => touchB t.acts[i] p.2) hx hy tx ty hxy
    refine all_false hi ?_
    rw [decide_eq_false_iff_not]; omega
  refine And.intro (by omega) (Exists.intro _ (And.intro (get_map hi) ?_))
  refine LoopW.mk (Nat × Int) (fun u => u.1 ≤ t.acts[i].effs.length ∧ Met (Tch l t.acts[i] u.1) u.2) (fun u => [(5, .osl (.cur 160) 1 0 (t.facts.map tS).length), (12, .int u.2), (47, .t (.sl t.an 4 (t.acts.map tAct))), (48, .int (t.acts.map tAct).length), (49, .int i), (54, .t (.sl t.acts[i].en 3 (t.acts[i].effs.map tEff))), (55, .int (t.acts[i].effs.map tEff).length), (56, .int u.1)])
    (fun _ => ⟨out, [(16, .box (cellsTask t)), (160, .grid 23 3 1 (gG (ofL (t.facts.map tS).length l l.length [])))]⟩) (fun u => t.acts[i].effs.length - u.1) (0, -1) ⟨Nat.zero_le _, .inl ⟨rfl, fun x ⟨m, _, _, h, _⟩ => by omega⟩⟩ ⟨rfl, rfl⟩ ?_
  rintro ⟨k, m⟩ ⟨hk0, hm⟩
  simp only at hk0 hm
  refine And.intro (fun h2 => ?_) fun h2 => ?_
  rotate_left
  · have hk : k = t.acts[i].effs.length := by have := ge_of_dec h2; have : k ≤ t.acts[i].effs.length := hk0; omega
    rw [hk] at hm
    refine And.intro (by omega) (And.intro (by omega) ?_)
    refine Exists.intro (i + 1) (And.intro (by show t.acts.length - (i + 1) < t.acts.length - i; omega) (And.intro ⟨hi, fun k hk hki => ?_⟩ (And.intro rfl rfl)))
    rcases Nat.lt_or_ge k i with h | h
    · exact hI.2 k hk h
    · have : k = i := by omega
      subst this
      refine countP_one fun x y hx hy h1 h2 => ?_
      have e1 := touch_Tch hx h1
      have e2 := touch_Tch hy h2
      rcases hm with ⟨_, hno⟩ | ⟨z, _, _, hz⟩
      · exact absurd e1 (hno x)
      · rw [hz x e1, hz y e2]
  have hk : k < t.acts[i].effs.length := lt_of_dec h2
  have hek : t.acts[i].effs[k] ∈ t.acts[i].effs := List.getElem_mem hk
  have hlit := TK.lit _ hem _ hek
  obtain ⟨f, hf⟩ : ∃ f : Nat, t.acts[i].effs[k].lit.fact = (f : Int) := ⟨t.acts[i].effs[k].lit.fact.toNat, by have := hlit.1; omega⟩
  have hfn : f < (t.facts.map tS).length := by have := hlit.2; rw [hf] at this; omega
  have hcur := gG_get (l := l) (i := l.length) (q := []) hfn
  have hwl := ofP_len l l.length [] f
  have step : ∀ x : Nat, Tch l t.acts[i] (k + 1) x ↔ Tch l t.acts[i] k x ∨ (x : Int) ∈ ofP l l.length [] f := fun x => by
    rw [ofP_mem]
    constructor
    · rintro ⟨q, e, p, g1, g2, g3, g4⟩
      rcases Nat.lt_or_ge q k with h | h
      · exact .inl ⟨q, e, p, h, g2, g3, g4⟩
      · have : q = k := by omega
        subst this
        rw [List.getElem?_eq_getElem hk] at g2
        cases g2
        exact .inr ⟨x, rfl, (List.getElem?_eq_some_iff.1 g3).1, p, g3, by rw [← hf]; exact g4⟩
    · rintro (⟨q, e, p, g1, g2, g3, g4⟩ | ⟨z, g1, g2, p, g3, g4⟩)
      · exact ⟨q, e, p, by omega, g2, g3, g4⟩
      · have : x = z := by omega
        subst this
        exact ⟨k, _, p, by omega, List.getElem?_eq_getElem hk, g3, by rw [hf]; exact g4⟩
  have upto : ∀ x : Nat, Tch l t.acts[i] (k + 1) x → Tch l t.acts[i] t.acts[i].effs.length x := fun x ⟨q, e, p, h1, h2⟩ => ⟨q, e, p, by omega, h2⟩
  refine And.intro (by omega) (Exists.intro _ (And.intro (get_map hk) ?_))
  refine And.intro hlit.1 (And.intro (by rw [hf]; omega) ?_)
  refine Exists.intro _ (And.intro (by rw [hf]; exact hcur) ?_)
  generalize hw : ofP l l.length [] f = w at hcur hwl step
  cases w with
  | nil =>
    refine LoopW.mk Unit (fun _ => True) (fun _ => [(5, .osl (.cur 160) 1 0 (t.facts.map tS).length), (12, .int m), (47, .t (.sl t.an 4 (t.acts.map tAct))), (48, .int (t.acts.map tAct).length), (49, .int i), (54, .t (.sl t.acts[i].en 3 (t.acts[i].effs.map tEff))), (55, .int (t.acts[i].effs.map tEff).length), (56, .int k), (65, .t (.sl true 0 [])), (66, .int 0), (67, .int 0)])
      (fun _ => ⟨out, [(16, .box (cellsTask t)), (160, .grid 23 3 1 (gG (ofL (t.facts.map tS).length l l.length [])))]⟩) (fun _ => 0) () trivial ⟨rfl, rfl⟩ fun _ _ => ?_
    refine And.intro (fun h => Bool.noConfusion h) fun _ => ?_
    refine And.intro (by omega) (And.intro (by omega) ?_)
    refine Exists.intro (k + 1, m) (And.intro (by show t.acts[i].effs.length - (k + 1) < t.acts[i].effs.length - k; omega) (And.intro ⟨hk, ?_⟩ (And.intro rfl rfl)))
    have : ∀ x, Tch l t.acts[i] (k + 1) x ↔ Tch l t.acts[i] k x := fun x => by rw [step]; simp
    show Met (Tch l t.acts[i] (k + 1)) m
    rw [show Tch l t.acts[i] (k + 1) = Tch l t.acts[i] k from funext fun x => propext (this x)]
    exact hm
  | cons y r =>
    refine LoopW.mk (Nat × Int) (fun u => u.1 ≤ (y :: r).length ∧ Met (fun x => Tch l t.acts[i] k x ∨ (x : Int) ∈ (y :: r).take u.1) u.2) (fun u => [(5, .osl (.cur 160) 1 0 (t.facts.map tS).length), (12, .int u.2), (47, .t (.sl t.an 4 (t.acts.map tAct))), (48, .int (t.acts.map tAct).length), (49, .int i), (54, .t (.sl t.acts[i].en 3 (t.acts[i].effs.map tEff))), (55, .int (t.acts[i].effs.map tEff).length), (56, .int k),
        (65, .osl (.sub (.cur 160) (0 + t.acts[i].effs[k].lit.fact.toNat)) 1 0 ((y :: r).map tI).length), (66, .int ((y :: r).map tI).length), (67, .int u.1)])
      (fun _ => ⟨out, [(16, .box (cellsTask t)), (160, .grid 23 3 1 (gG (ofL (t.facts.map tS).length l l.length [])))]⟩) (fun u => (y :: r).length - u.1) (0, m) ⟨Nat.zero_le _, ?_⟩ ⟨rfl, rfl⟩ ?_
    · show Met (fun x => Tch l t.acts[i] k x ∨ (x : Int) ∈ (y :: r).take 0) m
      simpa using hm
    rintro ⟨j, m2⟩ ⟨hj0, hm2⟩
    simp only at hj0 hm2
    refine And.intro (fun h3 => ?_) fun h3 => ?_
    rotate_left
    · have hj : j = (y :: r).length := by have := ge_of_dec h3; have : j ≤ (y :: r).length := hj0; omega
      rw [hj, List.take_length] at hm2
      refine And.intro (by omega) (And.intro (by omega) ?_)
      refine Exists.intro (k + 1, m2) (And.intro (by show t.acts[i].effs.length - (k + 1) < t.acts[i].effs.length - k; omega) (And.intro ⟨hk, ?_⟩ (And.intro rfl rfl)))
      show Met (Tch l t.acts[i] (k + 1)) m2
      rw [show Tch l t.acts[i] (k + 1) = fun x => Tch l t.acts[i] k x ∨ (x : Int) ∈ y :: r from funext fun x => propext (step x)]
      exact hm2
    have hj : j < (y :: r).length := lt_of_dec h3
    have hrow : (gG (ofL (t.facts.map tS).length l l.length []))[0 + t.acts[i].effs[k].lit.fact.toNat]? = some (.row ((y :: r).map tI)) := by rw [hf]; exact hcur
    obtain ⟨x, hx⟩ : ∃ x : Nat, (y :: r)[j] = (x : Int) := by
      have : (y :: r)[j] ∈ ofP l l.length [] f := by rw [hw]; exact List.getElem_mem hj
      obtain ⟨x, h, _⟩ := ofP_mem.1 this
      exact ⟨x, h⟩
    have hgx : ((y :: r).map tI)[0 + ((j : Nat) : Int).toNat]? = some (tI x) := by rw [Nat.zero_add, ← hx]; exact get_map hj
    have htx : Tch l t.acts[i] (k + 1) x := (step x).2 (.inr (by rw [← hx]; exact List.getElem_mem hj))
    have hnew : ∀ z : Nat, (Tch l t.acts[i] k z ∨ (z : Int) ∈ (y :: r).take (j + 1)) ↔ (Tch l t.acts[i] k z ∨ (z : Int) ∈ (y :: r).take j) ∨ z = x := fun z => by
      rw [List.take_add_one, List.getElem?_eq_getElem hj, hx]
      simp only [Option.toList_some, List.mem_append, List.mem_singleton, or_assoc]
      constructor
      · rintro (h | h | h)
        · exact .inl h
        · exact .inr (.inl h)
        · exact .inr (.inr (by omega))
      · rintro (h | h | h)
        · exact .inl h
        · exact .inr (.inl h)
        · exact .inr (.inr (by omega))
    have goon : (∀ z, Tch l t.acts[i] k z ∨ (z : Int) ∈ (y :: r).take j → z = x) → Met (fun z => Tch l t.acts[i] k z ∨ (z : Int) ∈ (y :: r).take (j + 1)) (x : Int) := fun h =>
      .inr ⟨x, rfl, (hnew x).2 (.inr rfl), fun z hz => ((hnew z).1 hz).elim (h z) id⟩
    refine And.intro (by omega) (And.intro (by show (j : Int) < (((y :: r).map tI).length : Nat); rw [List.length_map]; omega) ?_)
    refine Exists.intro _ (And.intro hrow (Exists.intro _ (And.intro hgx ?_)))
    refine And.intro (fun h4 => ?_) fun h4 => ?_
    · have h4 : m2 ≥ 0 := of_decide_eq_true h4
      rcases hm2 with ⟨h, _⟩ | ⟨z, rfl, hz1, hz2⟩
      · omega
      refine And.intro (fun h5 => ?_) fun h5 => ?_
      · have h5 : z ≠ x := fun h => by subst h; simp at h5
        refine Exists.intro [] (ret_bool ?_ rfl)
        refine (no z x h5 (upto z ((step z).2 (hz1.imp id fun h => List.mem_of_mem_take h))) (upto x htx))
      · have h5 : z = x := by have := (bne_eq_false_iff_eq.1 h5); omega
        subst h5
        refine And.intro (by omega) (And.intro (by omega) ?_)
        exact Exists.intro (j + 1, (z : Int)) (And.intro (by show (y :: r).length - (j + 1) < (y :: r).length - j; omega) (And.intro ⟨hj, goon hz2⟩ (And.intro rfl rfl)))
    · have h4 : ¬ m2 ≥ 0 := of_decide_eq_false h4
      rcases hm2 with ⟨_, hno⟩ | ⟨z, rfl, _⟩
      · refine And.intro (by omega) (And.intro (by omega) ?_)
        exact Exists.intro (j + 1, (x : Int)) (And.intro (by show (y :: r).length - (j + 1) < (y :: r).length - j; omega) (And.intro ⟨hj, goon fun z hz => absurd hz (hno z)⟩ (And.intro rfl rfl)))
      · omega

end Go.Fw

/- What the program's functions do: what several patterns say together. -/
namespace Go.Fw
open Go Go.Proofs
set_option maxRecDepth 10000

theorem OptR.cost {u : Task} {s : List Int} {c : Int} (h : OptR u s (.tup [.int c, .int 0])) : 0 ≤ c ∧ c ≤ 2000000000 := by
  generalize hr : LV.tup [.int c, .int 0] = r at h
  cases h with
  | space => cases hr
  | none => cases hr
  | ok S hW hl c' h0 hb hc => cases hr; exact ⟨h0, hb⟩

/-- There is one answer. -/
theorem OptR.det {u : Task} {s : List Int} {r r' : LV} (h : OptR u s r) (h' : OptR u s r') : r = r' := by
  have no : ∀ {S S' : List (List Int)}, S.Nodup → (∀ x ∈ S, ∃ d, Way u s d x) → 20000 < S.length → Dij.Whole (succ u) s S' → S'.length ≤ 20000 → False := fun h1 h2 h3 h4 h5 => by
    have := Dij.nodup_sub h1 fun x hx => by obtain ⟨d, p⟩ := h2 x hx; exact h4.mem p
    omega
  cases h with
  | space S hn hr hl =>
    cases h' with
    | space => rfl
    | none S' hW hl' => exact (no hn hr hl hW hl').elim
    | ok S' hW hl' => exact (no hn hr hl hW hl').elim
  | none S hW hl hg =>
    cases h' with
    | space S' hn hr hl' => exact (no hn hr hl' hW hl).elim
    | none => rfl
    | ok S' hW' hl' c h0 hb hc =>
      obtain ⟨x, hx, p⟩ := hc.1
      have := hg x (hW.mem p)
      exact absurd (this.symm.trans hx) Bool.noConfusion
  | ok S hW hl c h0 hb hc =>
    cases h' with
    | space S' hn hr hl' => exact (no hn hr hl' hW hl).elim
    | none S' hW' hl' hg =>
      obtain ⟨x, hx, p⟩ := hc.1
      have := hg x (hW'.mem p)
      exact absurd (this.symm.trans hx) Bool.noConfusion
    | ok S' hW' hl' c' h0' hb' hc' =>
      obtain ⟨x, hx, p⟩ := hc.1
      obtain ⟨x', hx', p'⟩ := hc'.1
      have h1 := hc.2 x' c' hx' p'
      have h2 := hc'.2 x c hx p
      have : c = c' := by omega
      rw [this]
/-- What a pattern of the list says. -/
abbrev SaysR (t : Task) (s : List Int) (p : Bool × List Int) (r : LV) : Prop := OptR (projT t p.2) (factsL p.2 s) r
def maxL (C : List Int) : Int := C.foldl max 0
/-- What several patterns say together, or the error. -/
inductive BestR (t : Task) (s : List Int) (l : List (Bool × List Int)) : LV → Prop
  | bad (h : givenI t s l ≠ 0) : BestR t s l (.tup [.int 0, .int (givenI t s l)])
  | space (h : givenI t s l = 0) (p : Bool × List Int) (hp : p ∈ l) (hr : SaysR t s p (.tup [.int 0, .int 3])) : BestR t s l (.tup [.int 0, .int 3])
  | none (h : givenI t s l = 0) (p : Bool × List Int) (hp : p ∈ l) (hr : SaysR t s p (.tup [.int 0, .int 4])) (hn : ∀ p ∈ l, ¬ SaysR t s p (.tup [.int 0, .int 3])) : BestR t s l (.tup [.int 0, .int 4])
  | ok (h : givenI t s l = 0) (C : List Int) (hl : C.length = l.length) (hC : ∀ (i : Nat) c p, C[i]? = some c → l[i]? = some p → SaysR t s p (.tup [.int c, .int 0])) :
      BestR t s l (.tup [.int (if addB t l then C.sum else maxL C), .int 0])

structure Bst (t : Task) (s : List Int) (l : List (Bool × List Int)) (C : List Int) (no : Bool) : Prop where
  le : C.length ≤ l.length
  nones : no = true → ∃ p ∈ l, SaysR t s p (.tup [.int 0, .int 4])
  nosp : ∀ (i : Nat) p, i < C.length → l[i]? = some p → ¬ SaysR t s p (.tup [.int 0, .int 3])
  yes : no = false → ∀ (i : Nat) c p, C[i]? = some c → l[i]? = some p → SaysR t s p (.tup [.int c, .int 0])
  sum0 : 0 ≤ C.sum
  sum1 : C.sum ≤ 2000000000 * (C.length : Int)

theorem sum_snoc (C : List Int) (c : Int) : (C ++ [c]).sum = C.sum + c := by simp
theorem maxL_snoc (C : List Int) (c : Int) : maxL (C ++ [c]) = max (maxL C) c := by simp [maxL]
theorem nosp_snoc {t : Task} {s : List Int} {l : List (Bool × List Int)} {C : List Int} {c : Int} (h : ∀ (i : Nat) p, i < C.length → l[i]? = some p → ¬ SaysR t s p (.tup [.int 0, .int 3])) (hi : C.length < l.length) {r : LV} (hc : SaysR t s l[C.length] r) (hr : r ≠ .tup [.int 0, .int 3]) :
    ∀ (i : Nat) p, i < (C ++ [c]).length → l[i]? = some p → ¬ SaysR t s p (.tup [.int 0, .int 3]) := fun i p hl hp => by
  by_cases hlt : i < C.length
  · exact h i p hlt hp
  · have : i = C.length := by rw [List.length_append, List.length_singleton] at hl; omega
    subst this
    rw [List.getElem?_eq_getElem hi] at hp
    cases hp
    exact fun hs => hr (hc.det hs)
theorem Bst.snoc {t : Task} {s : List Int} {l : List (Bool × List Int)} {C : List Int} {no : Bool} (h : Bst t s l C no) (hi : C.length < l.length) {c : Int} (hc : SaysR t s l[C.length] (.tup [.int c, .int 0])) : Bst t s l (C ++ [c]) no := by
  have hb := hc.cost
  have h0 := h.sum0
  have h1 := h.sum1
  refine ⟨by rw [List.length_append]; exact hi, h.nones, nosp_snoc h.nosp hi hc (fun h => by cases h), fun hn i c' p hg hp => ?_, by rw [sum_snoc]; omega, by rw [sum_snoc, List.length_append, List.length_singleton, Int.natCast_add]; omega⟩
  rw [List.getElem?_append] at hg
  split at hg
  · exact h.yes hn i c' p hg hp
  · rename_i hlt
    obtain ⟨h2, h3⟩ := List.getElem?_eq_some_iff.1 hg
    have : i = C.length := by rw [List.length_singleton] at h2; omega
    subst this
    rw [List.getElem?_eq_getElem hi] at hp
    cases hp
    have : c' = c := by simpa using hg.symm
    rw [this]; exact hc
theorem Bst.none {t : Task} {s : List Int} {l : List (Bool × List Int)} {C : List Int} {no : Bool} (h : Bst t s l C no) (hi : C.length < l.length) (hc : SaysR t s l[C.length] (.tup [.int 0, .int 4])) : Bst t s l (C ++ [0]) true := by
  have h0 := h.sum0
  have h1 := h.sum1
  exact ⟨by rw [List.length_append]; exact hi, fun _ => ⟨_, List.getElem_mem hi, hc⟩, nosp_snoc h.nosp hi hc (fun h => by cases h), fun h => Bool.noConfusion h, by rw [sum_snoc]; omega, by rw [sum_snoc, List.length_append, List.length_singleton, Int.natCast_add]; omega⟩

abbrev envB (n1 : Bool) (l : List (Bool × List Int)) (n2 : Bool) (s : List Int) (a b : Int) (no : Bool) (n : Int) : Env :=
  [(1, .t (.sl n1 1 (tLs l))), (2, .ints n2 s), (3, .ptr (.cur 24) 0), (9, .int a), (10, .int b), (11, .bool no), (23, .t (.sl n1 1 (tLs l))), (24, .int (tLs l).length), (25, .int n)]
theorem envB_snoc {n1 : Bool} {l : List (Bool × List Int)} {n2 : Bool} {s : List Int} {no : Bool} (C : List Int) (c : Int) :
    envB n1 l n2 s (C.sum + c) (if c > maxL C then c else maxL C) no ((C.length : Int) + 1) = envB n1 l n2 s (C ++ [c]).sum (maxL (C ++ [c])) no ((C ++ [c]).length : Nat) := by
  rw [sum_snoc, maxL_snoc, List.length_append, List.length_singleton, show (if c > maxL C then c else maxL C) = max (maxL C) c by rw [Int.max_def]; split <;> split <;> omega]; rfl
def kq23 : Kp := [(6, ([1, 2, 3, 9, 10, 11, 23, 24, 25], [24]))]
theorem f9_spec (t : Task) (n1 n2 : Bool) (l : List (Bool × List Int)) (s : List Int) (hl : l.length ≤ 1000000000) (out : List Fr) : SpecP Tryz.prog 9 [.task t, .t (.sl n1 1 (tLs l)), .ints n2 s] out fun r ro => BestR t s l r ∧ ro = [] := by
  refine spec_body cx_ok kq23 [] (fn := Tryz.f9) (by kernel_rfl) rfl (by kernel_rfl) rfl (by unfold FnOK; kernel_rfl) fun hok => ?_
  refine SpecP.mono (f24_spec t n2 n1 s l _) ?_
  rintro _ _ ⟨rfl, rfl⟩
  refine And.intro (fun h1 => ?_) fun h1 => ?_
  · have h1 : givenI t s l ≠ 0 := by simpa using h1
    exact Exists.intro [] ⟨.bad h1, rfl⟩
  have h1 : givenI t s l = 0 := by simpa using h1
  obtain ⟨h2, h3, h4⟩ := given_ok h1
  have TK := task_ok h2
  refine LoopW.mk (List Int × Bool) (fun u => Bst t s l u.1 u.2) (fun u => envB n1 l n2 s u.1.sum (maxL u.1) u.2 u.1.length)
    (fun _ => ⟨out, [(24, .box (cellsTask t))]⟩) (fun u => l.length - u.1.length) ([], false) ⟨Nat.zero_le _, fun h => Bool.noConfusion h, fun i p h => absurd h (Nat.not_lt_zero _), fun _ i c p h => by simp at h, by simp, by simp⟩ ⟨rfl, rfl⟩ ?_
  rintro ⟨C, no⟩ B
  have B : Bst t s l C no := B
  have B0 := B.sum0
  have B1 := B.sum1
  have B2 := B.le
  refine And.intro (fun h5 => ?_) fun h5 => ?_
  · have hi : C.length < l.length := by have h5 : (C.length : Int) < _ := of_decide_eq_true h5; rw [tLs_len] at h5; omega
    obtain ⟨h6, h7⟩ := h4 _ (List.getElem_mem hi)
    refine And.intro (Int.natCast_nonneg _) (Exists.intro _ (And.intro (tLs_get hi) ?_))
    refine SpecP.mono (f26_spec t l[C.length].1 l[C.length].2 h2 h6 []) ?_
    rintro _ _ ⟨rfl, rfl⟩
    refine SpecP.mono (f28_spec l[C.length].1 l[C.length].2 (rising_nodup h6) []) ?_
    rintro _ _ ⟨rfl, rfl⟩
    refine SpecP.mono (f27_spec n2 l[C.length].2 s _ (pl 280 48) rfl (rising_len h3 (by have := TK.facts; omega)) _) ?_
    rintro _ _ ⟨rfl, rfl⟩
    have hpl : (projT t l[C.length].2).facts.length = l[C.length].2.length := List.length_map ..
    refine SpecP.mono (f25_spec (projT t l[C.length].2) (factsL l[C.length].2 s) (projT_ok TK h6) (by rw [hpl]; exact facts_rising (rising_inc h6) h3) []) ?_
    rintro r _ ⟨hr, rfl⟩
    obtain ⟨a, e, rfl⟩ := optR_pair hr
    generalize hre : LV.tup [.int a, .int e] = r at hr
    have hr0 := hr
    cases hr with
    | space S hn hq hlS =>
      cases hre
      refine And.intro (fun _ => ?_) fun h => Bool.noConfusion h
      exact Exists.intro [] ⟨.space h1 _ (List.getElem_mem hi) hr0, rfl⟩
    | none S hW hlS hg =>
      cases hre
      refine And.intro (fun h => Bool.noConfusion h) fun _ => ?_
      have B' := B.none hi hr0
      cases no with
      | true =>
        refine (And.intro (by show -9223372036854775808 ≤ C.sum + 0; omega) (And.intro (by show C.sum + 0 ≤ 9223372036854775807; omega) (And.intro (by show -9223372036854775808 ≤ (C.length : Int) + 1; omega) (And.intro (by show (C.length : Int) + 1 ≤ 9223372036854775807; omega) ?_))))
        exact Exists.intro (C ++ [0], true) (And.intro (by show l.length - (C ++ [0]).length < l.length - C.length; rw [List.length_append, List.length_singleton]; omega) (And.intro B' (And.intro (envB_snoc C 0) rfl)))
      | false =>
        refine And.intro (fun _ => ?_) fun h => Bool.noConfusion h
        refine (And.intro (by show -9223372036854775808 ≤ C.sum + 0; omega) (And.intro (by show C.sum + 0 ≤ 9223372036854775807; omega) (And.intro (by show -9223372036854775808 ≤ (C.length : Int) + 1; omega) (And.intro (by show (C.length : Int) + 1 ≤ 9223372036854775807; omega) ?_))))
        exact Exists.intro (C ++ [0], true) (And.intro (by show l.length - (C ++ [0]).length < l.length - C.length; rw [List.length_append, List.length_singleton]; omega) (And.intro B' (And.intro (envB_snoc C 0) rfl)))
    | ok S hW hlS c h0 hb hc =>
      cases hre
      refine And.intro (fun h => Bool.noConfusion h) fun _ => ?_
      have B' := B.snoc hi hr0
      cases no with
      | true =>
        refine (And.intro (by show -9223372036854775808 ≤ C.sum + a; omega) (And.intro (by show C.sum + a ≤ 9223372036854775807; omega) (And.intro (by show -9223372036854775808 ≤ (C.length : Int) + 1; omega) (And.intro (by show (C.length : Int) + 1 ≤ 9223372036854775807; omega) ?_))))
        exact Exists.intro (C ++ [a], true) (And.intro (by show l.length - (C ++ [a]).length < l.length - C.length; rw [List.length_append, List.length_singleton]; omega) (And.intro B' (And.intro (envB_snoc C a) rfl)))
      | false =>
        refine And.intro (fun h => Bool.noConfusion h) fun _ => ?_
        refine (And.intro (by show -9223372036854775808 ≤ C.sum + a; omega) (And.intro (by show C.sum + a ≤ 9223372036854775807; omega) (And.intro (by show -9223372036854775808 ≤ (C.length : Int) + 1; omega) (And.intro (by show (C.length : Int) + 1 ≤ 9223372036854775807; omega) ?_))))
        exact Exists.intro (C ++ [a], false) (And.intro (by show l.length - (C ++ [a]).length < l.length - C.length; rw [List.length_append, List.length_singleton]; omega) (And.intro B' (And.intro (envB_snoc C a) rfl)))
  · have hi : C.length = l.length := by have h5 : ¬ (C.length : Int) < _ := of_decide_eq_false h5; rw [tLs_len] at h5; omega
    cases no with
    | true =>
      obtain ⟨p, hp, hr⟩ := B.nones rfl
      exact Exists.intro [] ⟨.none h1 p hp hr (fun p hp => by obtain ⟨j, hj⟩ := List.mem_iff_getElem?.1 hp; exact B.nosp j p (by rw [hi]; exact (List.getElem?_eq_some_iff.1 hj).1) hj), rfl⟩
    | false =>
      refine SpecP.mono (f29_spec t n1 l TK (fun p hp => (h4 p hp).1) hl _) ?_
      rintro _ _ ⟨rfl, rfl⟩
      have hb : BestR t s l (.tup [.int (if addB t l then C.sum else maxL C), .int 0]) := .ok h1 C hi (B.yes rfl)
      refine And.intro (fun h7 => ?_) fun h7 => ?_
      · rw [if_pos h7] at hb
        exact Exists.intro [] ⟨hb, rfl⟩
      · rw [if_neg (by rw [h7]; exact Bool.noConfusion)] at hb
        exact Exists.intro [] ⟨hb, rfl⟩

end Go.Fw

/- What the program's functions do: the smallest closed pattern. -/
namespace Go.Fw
open Go Go.Proofs
set_option maxRecDepth 10000

/-- What a closed pattern with these facts has to contain. -/
inductive InCl (t : Task) (p : List Int) : Int → Prop
  | base {x : Int} (h : hasB p x = true) : InCl t p x
  | step {a : Actn} {e : Eff} {l : Lit} (ha : a ∈ t.acts) (he : e ∈ a.effs) (hl : l ∈ e.when_) (h : InCl t p e.lit.fact) : InCl t p l.fact
theorem InCl.range {t : Task} {p : List Int} (TK : TaskOK t) (hp : risingB p t.facts.length = true) {x : Int} (h : InCl t p x) : 0 ≤ x ∧ x < (t.facts.length : Int) := by
  cases h with
  | base h => exact rising_in hp x (hasB_mem.1 h)
  | step ha he hl _ => exact TK.whn _ ha _ he _ hl
/-- The smallest closed pattern. -/
def ClsOf (t : Task) (p c : List Int) : Prop := c.Pairwise (· < ·) ∧ ∀ x, x ∈ c ↔ InCl t p x
theorem ClsOf.uniq {t : Task} {p a b : List Int} (ha : ClsOf t p a) (hb : ClsOf t p b) : a = b := inc_ext ha.1 hb.1 fun x => (ha.2 x).trans (hb.2 x).symm

/-- Facts that are in the smallest closed pattern, those of the pattern among them. -/
structure ClM (t : Task) (p M : List Int) : Prop where
  base : ∀ x, hasB p x = true → hasB M x = true
  inn : ∀ x, hasB M x = true → InCl t p x
  nod : M.Nodup
def insL (M : List Int) (x : Int) : List Int := if hasB M x = true then M else M ++ [x]
theorem upd_insL (x : Int) (l : List Int) : updKV (.int .i64 x) (.v (.bool true)) (kvI l) = kvI (insL l x) := by
  unfold insL
  induction l with
  | nil => rfl
  | cons z r ih =>
    by_cases h : x = z
    · subst h
      simp only [kvI, List.map_cons, updKV]
      rw [if_pos (show sameK (.int .i64 x) (.int .i64 x) = true by simp [sameK]), if_pos (by simp [hasB])]
      rfl
    · simp only [kvI, List.map_cons, updKV] at ih ⊢
      rw [if_neg (show ¬ sameK (.int .i64 x) (.int .i64 z) = true by simpa [sameK] using h), ih]
      have h2 : (z == x) = false := by simpa using fun hh => h hh.symm
      have e : hasB (z :: r) x = hasB r x := by simp only [hasB, List.any_cons, h2, Bool.false_or]
      rw [e]
      split <;> rfl
theorem ClM.ins {t : Task} {p M : List Int} (h : ClM t p M) {x : Int} (hx : InCl t p x) : ClM t p (insL M x) := by
  unfold insL
  split
  · exact h
  rename_i hn
  refine ⟨fun y hy => by rw [hasB_snoc, h.base y hy]; rfl, fun y hy => ?_, List.nodup_append.2 ⟨h.nod, by simp, fun a ha b hb hab => ?_⟩⟩
  · rw [hasB_snoc, Bool.or_eq_true, beq_iff_eq] at hy
    rcases hy with hy | rfl
    · exact h.inn y hy
    · exact hx
  · simp at hb; subst hb; subst hab
    exact hn (hasB_mem.2 ha)
theorem ClM.len {t : Task} {p M : List Int} (TK : TaskOK t) (hp : risingB p t.facts.length = true) (h : ClM t p M) : M.length ≤ t.facts.length := by
  have := Dij.nodup_sub (S' := (List.range t.facts.length).map Int.ofNat) h.nod fun x hx => by
    have := (h.inn x (hasB_mem.2 hx)).range TK hp
    exact List.mem_map.2 ⟨x.toNat, List.mem_range.2 (by omega), Int.toNat_of_nonneg this.1⟩
  simpa using this
/-- A pass over the actions: if nothing has been added, this holds. -/
structure Pas (t : Task) (p : List Int) (k : Nat) (M : List Int) (R : Prop) : Prop where
  cl : ClM t p M
  le : k ≤ M.length
  same : M.length = k → R
theorem Pas.mono {t : Task} {p M : List Int} {k : Nat} {R R' : Prop} (h : Pas t p k M R) (hr : R → R') : Pas t p k M R' := ⟨h.cl, h.le, fun he => hr (h.same he)⟩
theorem Pas.ins {t : Task} {p M : List Int} {k : Nat} {R R' : Prop} (h : Pas t p k M R) {x : Int} (hx : InCl t p x) (hr : hasB M x = true → R → R') : Pas t p k (insL M x) R' := by
  refine ⟨h.cl.ins hx, ?_, fun he => ?_⟩
  · have := h.le
    unfold insL; split <;> simp <;> omega
  · unfold insL at he
    split at he
    · rename_i hx; exact hr hx (h.same he)
    · have := h.le
      simp at he; omega
/-- Is nothing asked of other facts by the first effects? -/
def clTo (M : List Int) (l : List Eff) (n : Nat) : Prop := ∀ j (hj : j < l.length), j < n → clE M l[j] = true
theorem clE_iff {M : List Int} {e : Eff} : clE M e = true ↔ (hasB M e.lit.fact = true → ∀ l ∈ e.when_, hasB M l.fact = true) := by
  unfold clE
  cases h : hasB M e.lit.fact
  · simp
  · simp
/-- A closed list with all that is needed is the smallest one. -/
theorem ClM.whole {t : Task} {p M : List Int} (h : ClM t p M) (hc : closedB t M = true) : ∀ x, hasB M x = true ↔ InCl t p x := fun x => by
  refine ⟨h.inn x, fun hx => ?_⟩
  induction hx with
  | base hb => exact h.base _ hb
  | step ha he hl _ ih =>
    have := List.all_eq_true.1 (List.all_eq_true.1 hc _ ha) _ he
    exact clE_iff.1 this ih _ hl
def pickL (M : List Int) (n : Nat) : List Int := ((List.range n).filter fun f : Nat => hasB M (f : Int)).map Int.ofNat
theorem pickL_step (M : List Int) (n : Nat) : pickL M (n + 1) = pickL M n ++ if hasB M (n : Int) = true then [(n : Int)] else [] := by
  rw [pickL, List.range_succ, List.filter_append, List.map_append]
  cases h : hasB M (n : Int) <;> simp [h, pickL]
theorem pickL_len (M : List Int) (n : Nat) : (pickL M n).length ≤ n := by
  rw [pickL, List.length_map]; exact Nat.le_trans (List.length_filter_le ..) (by simp)
theorem pickL_cls {t : Task} {p M : List Int} (TK : TaskOK t) (hp : risingB p t.facts.length = true) (h : ∀ x, hasB M x = true ↔ InCl t p x) : ClsOf t p (pickL M t.facts.length) := by
  refine ⟨?_, fun x => ?_⟩
  · rw [pickL, List.pairwise_map]
    exact (List.pairwise_lt_range.filter _).imp fun h => Int.ofNat_lt.2 h
  · rw [← h x, pickL, List.mem_map]
    constructor
    · rintro ⟨f, hf, rfl⟩
      exact (List.mem_filter.1 hf).2
    · intro hx
      have hr := ((h x).1 hx).range TK hp
      exact ⟨x.toNat, List.mem_filter.2 ⟨List.mem_range.2 (by omega), by rw [Int.toNat_of_nonneg hr.1]; exact hx⟩, Int.toNat_of_nonneg hr.1⟩

theorem insL_pos {M : List Int} {x : Int} (h : hasB M x = true) : insL M x = M := if_pos h
abbrev mkJ : Nat := 201000651
/-- The result as it is gathered. -/
abbrev clsO (t : Task) (n1 : Bool) (p : List Int) (r : LV) (ro : Fr) : Prop :=
  (asksI t false [(n1, p)] ≠ 0 ∧ r = .tup [nilV, .int (asksI t false [(n1, p)])] ∧ ro = []) ∨ (asksI t false [(n1, p)] = 0 ∧ ∃ c, ClsOf t p c ∧ r = .tup [accV 608 1 (c.map tI), .int 0] ∧ ro = accO 608 3 1 (c.map tI))
def kq25 : Kp := [(6, ([2, 7, 8], [16, mkJ])), (9, ([2, 7, 8, 33, 34, 35], [16, mkJ])), (12, ([2, 7, 8, 33, 34, 35, 40, 41, 42], [16, mkJ])), (15, ([2, 7, 8, 12, 33, 34, 35, 40, 41, 42, 47, 48, 49], [16, mkJ, 96])), (24, ([7, 15, 66, 67], [mkJ, 608]))]
/-- The smallest closed pattern, or the error. -/
abbrev ClsR (t : Task) (n1 : Bool) (p : List Int) (r : LV) : Prop :=
  (asksI t false [(n1, p)] ≠ 0 ∧ r = .tup [nilV, .int (asksI t false [(n1, p)])]) ∨ (asksI t false [(n1, p)] = 0 ∧ ∃ c, ClsOf t p c ∧ r = .tup [.ints c.isEmpty c, .int 0])
end Go.Fw

/- What the reference's functions do: patterns, additive ones. -/
namespace Go.Fw
open Go Go.Proofs
set_option maxRecDepth 10000

theorem f7_spec (t : Task) (n1 : Bool) (p : List Int) (out : List Fr) : SpecP Tryz.prog 7 [.task t, .ints n1 p] out fun r ro => r = .bool (risingB p t.facts.length) ∧ ro = [] := by
  refine spec_body cx_ok [] [] (fn := Tryz.f7) (by kernel_rfl) rfl (by kernel_rfl) rfl (by unfold FnOK; kernel_rfl) fun hok => ?_
  refine SpecP.mono (f23_spec n1 p (t.facts.map tS).length []) ?_
  rintro _ _ ⟨rfl, rfl⟩
  rw [List.length_map]
  refine And.intro (fun h => ?_) fun h => ?_
  · exact Exists.intro [] (ret_bool h rfl)
  · exact Exists.intro [] (ret_bool h rfl)

def kq54 : Kp := [(2, ([1, 8, 9, 10], [16]))]
theorem f58_spec (a : Actn) (n1 : Bool) (p : List Int) (he : a.effs.length ≤ 1000000) (out : List Fr) : SpecP Tryz.prog 58 [.act a, .ints n1 p] out fun r ro => r = .bool (touchB a p) ∧ ro = [] := by
  refine spec_body cx_ok kq54 [] (fn := Tryz.f58) (by kernel_rfl) rfl (by kernel_rfl) rfl (by unfold FnOK; kernel_rfl) fun hok => ?_
  refine LoopW.mk Nat (fun i => i ≤ a.effs.length ∧ ∀ j (hj : j < a.effs.length), j < i → hasB p a.effs[j].lit.fact = false) (fun i => [(1, .ints n1 p), (8, .t (.sl a.en 3 (a.effs.map tEff))), (9, .int (a.effs.map tEff).length), (10, .int i)])
    (fun _ => ⟨out, [(16, .box (cellsAct a))]⟩) (fun i => a.effs.length - i) 0 ⟨Nat.zero_le _, fun j _ h => by cases h⟩ ⟨rfl, rfl⟩ fun i hI => ?_
  refine And.intro (fun h1 => ?_) fun h1 => ?_
  · have hi := lt_of_dec h1
    refine And.intro (by omega) (Exists.intro _ (And.intro (get_map hi) ?_))
    refine SpecP.mono (f16_spec n1 p a.effs[i].lit.fact _) ?_
    rintro _ _ ⟨rfl, rfl⟩
    refine And.intro (fun h2 => ?_) fun h2 => ?_
    · exact Exists.intro [] (ret_bool (List.any_eq_true.2 ⟨_, List.getElem_mem hi, h2⟩ : touchB a p = true) rfl)
    · refine And.intro (by omega) (And.intro (by omega) ?_)
      refine Exists.intro (i + 1) (And.intro (by show a.effs.length - (i + 1) < a.effs.length - i; omega) (And.intro ⟨hi, fun j hj hji => ?_⟩ (And.intro rfl rfl)))
      rcases Nat.lt_or_ge j i with h | h
      · exact hI.2 j hj h
      · have : j = i := by omega
        subst this; exact h2
  · have hi : a.effs.length ≤ i := ge_of_dec h1
    refine Exists.intro [] (ret_bool (List.any_eq_false.2 fun e he => ?_ : touchB a p = false) rfl)
    obtain ⟨j, hj, rfl⟩ := List.getElem_of_mem he
    rw [hI.2 j hj (by omega)]; exact Bool.noConfusion

def kq30 : Kp := [(2, ([1, 11, 12, 13], [16])), (6, ([1, 6, 7, 11, 12, 13, 17, 18, 19], [16, 48]))]
theorem countP_take {α : Type} {q : α → Bool} {l : List α} {i : Nat} (hi : i < l.length) : (l.take (i + 1)).countP q = (l.take i).countP q + if q l[i] = true then 1 else 0 := by
  rw [List.take_add_one, List.getElem?_eq_getElem hi, Option.toList_some, List.countP_append, List.countP_singleton]
theorem f35_spec (t : Task) (n1 : Bool) (l : List (Bool × List Int)) (TK : TaskOK t) (hl : l.length ≤ 1000000000) (out : List Fr) : SpecP Tryz.prog 35 [.task t, .t (.sl n1 1 (tLs l))] out fun r ro => r = .bool (addB t l) ∧ ro = [] := by
  refine spec_body cx_ok kq30 [] (fn := Tryz.f35) (by kernel_rfl) rfl (by kernel_rfl) rfl (by unfold FnOK; kernel_rfl) fun hok => ?_
  have hA := TK.acts
  refine LoopW.mk Nat (fun i => i ≤ t.acts.length ∧ ∀ j (hj : j < t.acts.length), j < i → l.countP (fun p => touchB t.acts[j] p.2) ≤ 1) (fun i => [(1, .t (.sl n1 1 (tLs l))), (11, .t (.sl t.an 4 (t.acts.map tAct))), (12, .int (t.acts.map tAct).length), (13, .int i)])
    (fun _ => ⟨out, [(16, .box (cellsTask t))]⟩) (fun i => t.acts.length - i) 0 ⟨Nat.zero_le _, fun j _ h => by cases h⟩ ⟨rfl, rfl⟩ fun i hI => ?_
  refine And.intro (fun h1 => ?_) fun h1 => ?_
  rotate_left
  · have hi : t.acts.length ≤ i := ge_of_dec h1
    refine Exists.intro [] (ret_bool (List.all_eq_true.2 fun a ha => ?_ : addB t l = true) rfl)
    obtain ⟨j, hj, rfl⟩ := List.getElem_of_mem ha
    exact decide_eq_true (hI.2 j hj (by omega))
  have hi := lt_of_dec h1
  have hel := TK.effs _ (List.getElem_mem hi)
  refine And.intro (by omega) (Exists.intro _ (And.intro (get_map hi) ?_))
  refine LoopW.mk Nat (fun k => k ≤ l.length) (fun k => [(1, .t (.sl n1 1 (tLs l))), (6, .ptr (.cur 48) 0), (7, .int ((l.take k).countP (fun p => touchB t.acts[i] p.2))), (11, .t (.sl t.an 4 (t.acts.map tAct))), (12, .int (t.acts.map tAct).length), (13, .int i), (17, .t (.sl n1 1 (tLs l))), (18, .int (tLs l).length), (19, .int k)])
    (fun _ => ⟨out, [(16, .box (cellsTask t)), (48, .box (cellsAct t.acts[i]))]⟩) (fun k => l.length - k) 0 (Nat.zero_le _) ⟨rfl, rfl⟩ fun k hk0 => ?_
  have hcl : (l.take k).countP (fun p => touchB t.acts[i] p.2) ≤ k := Nat.le_trans List.countP_le_length (by rw [List.length_take]; omega)
  refine And.intro (fun h2 => ?_) fun h2 => ?_
  · have hk : k < l.length := by have h2 : (k : Int) < _ := of_decide_eq_true h2; rw [tLs_len] at h2; omega
    have stp := countP_take (q := fun p : Bool × List Int => touchB t.acts[i] p.2) hk
    refine And.intro (Int.natCast_nonneg _) (Exists.intro _ (And.intro (tLs_get hk) ?_))
    refine SpecP.mono (f58_spec t.acts[i] l[k].1 l[k].2 (by omega) _) ?_
    rintro _ _ ⟨rfl, rfl⟩
    refine And.intro (fun h3 => ?_) fun h3 => ?_
    · rw [if_pos h3] at stp
      refine And.intro (by omega) (And.intro (by omega) ?_)
      refine And.intro (by omega) (And.intro (by omega) ?_)
      refine Exists.intro (k + 1) (And.intro (by show l.length - (k + 1) < l.length - k; omega) (And.intro hk (And.intro ?_ rfl)))
      show _ = [(1, LV.t (.sl n1 1 (tLs l))), (6, .ptr (.cur 48) 0), (7, .int ((l.take (k + 1)).countP (fun p => touchB t.acts[i] p.2))), (11, .t (.sl t.an 4 (t.acts.map tAct))), (12, .int (t.acts.map tAct).length), (13, .int i), (17, .t (.sl n1 1 (tLs l))), (18, .int (tLs l).length), (19, .int (k + 1 : Nat))]
      rw [stp]; rfl
    · rw [if_neg (by rw [h3]; exact Bool.noConfusion), Nat.add_zero] at stp
      refine And.intro (by omega) (And.intro (by omega) ?_)
      refine Exists.intro (k + 1) (And.intro (by show l.length - (k + 1) < l.length - k; omega) (And.intro hk (And.intro ?_ rfl)))
      show _ = [(1, LV.t (.sl n1 1 (tLs l))), (6, .ptr (.cur 48) 0), (7, .int ((l.take (k + 1)).countP (fun p => touchB t.acts[i] p.2))), (11, .t (.sl t.an 4 (t.acts.map tAct))), (12, .int (t.acts.map tAct).length), (13, .int i), (17, .t (.sl n1 1 (tLs l))), (18, .int (tLs l).length), (19, .int (k + 1 : Nat))]
      rw [stp]; rfl
  · have hk : k = l.length := by have h2 : ¬ (k : Int) < _ := of_decide_eq_false h2; rw [tLs_len] at h2; omega
    subst hk
    rw [List.take_length] at hcl
    refine And.intro (fun h3 => ?_) fun h3 => ?_
    · have h3 : ((((l.take l.length).countP (fun p => touchB t.acts[i] p.2)) : Nat) : Int) > 1 := of_decide_eq_true h3
      rw [List.take_length] at h3
      refine Exists.intro [] (ret_bool ?_ rfl)
      refine all_false hi ?_
      rw [decide_eq_false_iff_not]; omega
    · have h3 : ¬ ((((l.take l.length).countP (fun p => touchB t.acts[i] p.2)) : Nat) : Int) > 1 := of_decide_eq_false h3
      rw [List.take_length] at h3
      refine And.intro (by omega) (And.intro (by omega) ?_)
      refine Exists.intro (i + 1) (And.intro (by show t.acts.length - (i + 1) < t.acts.length - i; omega) (And.intro ⟨hi, fun j hj hji => ?_⟩ (And.intro rfl rfl)))
      rcases Nat.lt_or_ge j i with h | h
      · exact hI.2 j hj h
      · have : j = i := by omega
        subst this; omega

end Go.Fw

/- What the reference's functions do: projections of states and literals. -/
namespace Go.Fw
open Go Go.Proofs
set_option maxRecDepth 10000

def pickF (q : Nat → Bool) (n : Nat) : List Int := ((List.range n).filter q).map Int.ofNat
theorem pickF_step (q : Nat → Bool) (n : Nat) : pickF q (n + 1) = pickF q n ++ if q n = true then [(n : Int)] else [] := by
  rw [pickF, List.range_succ, List.filter_append, List.map_append]
  cases h : q n <;> simp [h, pickF]
theorem pickF_len (q : Nat → Bool) (n : Nat) : (pickF q n).length ≤ n := by
  rw [pickF, List.length_map]; exact Nat.le_trans (List.length_filter_le ..) (by simp)
theorem inc_inj {l : List Int} (h : l.Pairwise (· < ·)) {i j : Nat} (hi : i < l.length) (hj : j < l.length) (he : l[i] = l[j]) : i = j := by
  rcases Nat.lt_trichotomy i j with h1 | h1 | h1
  · have := List.pairwise_iff_getElem.1 h i j hi hj h1; omega
  · exact h1
  · have := List.pairwise_iff_getElem.1 h j i hj hi h1; omega
/-- The places of a pattern that a state has. -/
def stL (p s : List Int) (n : Nat) : List Int := pickF (fun i => hasB s (p.getD i 0)) n
theorem stL_step (p s : List Int) (n : Nat) : stL p s (n + 1) = stL p s n ++ if hasB s (p.getD n 0) = true then [(n : Int)] else [] := pickF_step ..
theorem stL_len (p s : List Int) (n : Nat) : (stL p s n).length ≤ n := pickF_len ..
theorem stL_facts {p s : List Int} {n m : Int} (hp : risingB p n = true) (hs : risingB s m = true) : stL p s p.length = factsL p s := by
  have hpi := rising_inc hp
  refine inc_ext ?_ (rising_inc (facts_rising hpi hs)) fun x => ?_
  · rw [stL, pickF, List.pairwise_map]
    exact (List.pairwise_lt_range.filter _).imp fun h => Int.ofNat_lt.2 h
  · rw [stL, pickF, factsL, List.mem_map, List.mem_map]
    constructor
    · rintro ⟨i, hi, rfl⟩
      obtain ⟨h1, h2⟩ := List.mem_filter.1 hi
      have h1 := List.mem_range.1 h1
      have hg : p[i]? = some p[i] := List.getElem?_eq_getElem h1
      rw [List.getD_eq_getElem?_getD, hg, Option.getD_some] at h2
      have hin : hasB p p[i] = true := hasB_mem.2 (List.getElem_mem h1)
      refine ⟨p[i], List.mem_filter.2 ⟨hasB_mem.1 h2, hin⟩, ?_⟩
      have h3 := posI_get hin
      have h4 := posI_in hin
      obtain ⟨h5, h6⟩ := List.getElem?_eq_some_iff.1 h3
      have h7 : (posI p p[i]).toNat = i := inc_inj hpi h5 h1 h6
      show posI p p[i] = (i : Int)
      omega
    · rintro ⟨y, hy, rfl⟩
      obtain ⟨h1, h2⟩ := List.mem_filter.1 hy
      have h3 := posI_get h2
      have h4 := posI_in h2
      refine ⟨(posI p y).toNat, List.mem_filter.2 ⟨List.mem_range.2 (by omega), ?_⟩, Int.toNat_of_nonneg h4.1⟩
      rw [List.getD_eq_getElem?_getD, h3, Option.getD_some]
      exact hasB_mem.2 h1

def kq20 : Kp := [(3, ([1, 5, 8, 9, 10], [168]))]
theorem f34_spec (n1 n2 : Bool) (p s : List Int) (hl : p.length ≤ 1000000000) (out : List Fr) :
    SpecP Tryz.prog 34 [.ints n1 p, .ints n2 s] out fun r ro => r = .ints (stL p s p.length).isEmpty (stL p s p.length) ∧ ro = [] := by
  refine SpecP.close (Post := fun r ro => r = accV 168 1 ((stL p s p.length).map tI) ∧ ro = accO 168 3 1 ((stL p s p.length).map tI)) ?_ ?_
  rotate_left
  · rintro r ro ⟨rfl, rfl⟩
    refine ⟨_, acc_cls (e := 3) fun x r h => by rw [h]; exact look_cons .. |>.trans (if_pos rfl), ?_, rfl⟩
    rw [show ((stL p s p.length).map tI).isEmpty = (stL p s p.length).isEmpty by cases stL p s p.length <;> rfl]
  refine spec_body cx_ok kq20 [] (fn := Tryz.f34) (by kernel_rfl) rfl (by kernel_rfl) rfl (by unfold FnOK; kernel_rfl) fun hok => ?_
  refine LoopW.mk (Nat × List Int) (fun u => u.1 ≤ p.length ∧ u.2 = stL p s u.1) (fun u => [(1, .ints n2 s), (5, accV 168 1 (u.2.map tI)), (8, .ints n1 p), (9, .int (p.map tI).length), (10, .int u.1)])
    (fun u => ⟨out, accO 168 3 1 (u.2.map tI)⟩) (fun u => p.length - u.1) (0, []) ⟨Nat.zero_le _, rfl⟩ ⟨rfl, rfl⟩ ?_
  rintro ⟨i, L⟩ ⟨hi0, hL⟩
  simp only at hi0 hL
  have hLl : L.length ≤ 1000000000 := by rw [hL]; have := stL_len p s i; omega
  cases L
  case' nil => let O : List Int := []
  case' cons y r => let O : List Int := y :: r
  all_goals
    refine And.intro (fun h1 => ?_) fun h1 => ?_
    rotate_left
    · have hi : i = p.length := by have := ge_of_dec h1; have : i ≤ p.length := hi0; omega
      have hL' : O = stL p s p.length := by rw [← hi]; exact hL
      rw [← hL']
      exact Exists.intro [168] ⟨rfl, rfl⟩
    have hi := lt_of_dec h1
    have stp := stL_step p s i
    rw [← hL, List.getD_eq_getElem?_getD, List.getElem?_eq_getElem hi, Option.getD_some] at stp
    refine And.intro (by omega) (Exists.intro _ (And.intro (get_map hi) ?_))
    refine SpecP.mono (f16_spec n2 s p[i] _) ?_
    rintro _ _ ⟨rfl, rfl⟩
    refine And.intro (fun h2 => ?_) fun h2 => ?_
    · rw [if_pos h2] at stp
      have hl4 : ∀ X : List T, ((O.map tI) ++ [X]).length ≤ 1000000001 := fun X => by
        have : O.length ≤ 1000000000 := hLl
        rw [List.length_append, List.length_map, List.length_singleton]; omega
      repeat first
        | refine And.intro (Nat.le_of_ble_eq_true rfl) ?_
        | refine And.intro rfl ?_
        | refine And.intro (Nat.le_trans (Nat.mul_le_mul_right _ (hl4 _)) (Nat.le_of_ble_eq_true rfl)) ?_
        | refine And.intro (Nat.le_trans (hl4 _) (Nat.le_of_ble_eq_true rfl)) ?_
      refine And.intro (by show (-9223372036854775808 : Int) ≤ (i : Int) + 1; omega) (And.intro (by show (i : Int) + 1 ≤ 9223372036854775807; omega) ?_)
      first
        | exact Exists.intro (i + 1, [(i : Int)]) (And.intro (by show p.length - (i + 1) < p.length - i; omega) (And.intro ⟨hi, stp.symm⟩ (And.intro rfl rfl)))
        | (refine Exists.intro (i + 1, y :: (r ++ [(i : Int)])) (And.intro (by show p.length - (i + 1) < p.length - i; omega) (And.intro ⟨hi, stp.symm⟩ ?_))
           have e : (r ++ [(i : Int)]).map tI = r.map tI ++ [tI (i : Int)] := by simp
           simp only [List.map_cons, e]
           exact And.intro rfl rfl)
    · rw [if_neg (by simp [h2]), List.append_nil] at stp
      refine And.intro (by show (-9223372036854775808 : Int) ≤ (i : Int) + 1; omega) (And.intro (by show (i : Int) + 1 ≤ 9223372036854775807; omega) ?_)
      exact Exists.intro (i + 1, O) (And.intro (by show p.length - (i + 1) < p.length - i; omega) (And.intro ⟨hi, stp.symm⟩ (And.intro rfl rfl)))

end Go.Fw

/- What the reference's functions do: literals of a pattern. -/
namespace Go.Fw
open Go Go.Proofs
set_option maxRecDepth 10000

/-- The literal at a pattern's place, if it has been met. -/
def metL (p : List Int) (x : Lit) (j : Nat) : List Lit := if hasB (p.take j) x.fact = true then [⟨posI p x.fact, x.neg⟩] else []
theorem metL_hit {p : List Int} {x : Lit} {j : Nat} (hp : p.Pairwise (· < ·)) (hj : j < p.length) (h : p[j] = x.fact) : metL p x j = [] ∧ metL p x (j + 1) = [⟨(j : Int), x.neg⟩] := by
  have h1 : hasB (p.take j) x.fact = false := by
    cases hb : hasB (p.take j) x.fact with
    | false => rfl
    | true =>
      obtain ⟨k, hk, he⟩ := List.getElem_of_mem (hasB_mem.1 hb)
      rw [List.length_take] at hk
      rw [List.getElem_take, ← h] at he
      have := inc_inj hp (by omega) hj he
      omega
  have h2 : hasB p x.fact = true := hasB_mem.2 (by rw [← h]; exact List.getElem_mem hj)
  have h3 := posI_in h2
  obtain ⟨h4, h5⟩ := List.getElem?_eq_some_iff.1 (posI_get h2)
  have h6 := inc_inj hp h4 hj (by rw [h5, h])
  refine ⟨by rw [metL, h1]; rfl, ?_⟩
  rw [metL, List.take_add_one, List.getElem?_eq_getElem hj, Option.toList_some, hasB_snoc, h, beq_self_eq_true, Bool.or_true, if_pos rfl, show posI p x.fact = (j : Int) by omega]
theorem metL_miss {p : List Int} {x : Lit} {j : Nat} (hj : j < p.length) (h : p[j] ≠ x.fact) : metL p x (j + 1) = metL p x j := by
  rw [metL, metL, List.take_add_one, List.getElem?_eq_getElem hj, Option.toList_some, hasB_snoc, show (p[j] == x.fact) = false by simpa using h, Bool.or_false]
theorem metL_all (p : List Int) (l : List Lit) {i : Nat} (hi : i < l.length) : litsL p (l.take i) ++ metL p l[i] p.length = litsL p (l.take (i + 1)) := by
  rw [litsL_step hi, metL, List.take_length]
theorem metL_len (p : List Int) (x : Lit) (j : Nat) : (metL p x j).length ≤ 1 := by
  unfold metL; split <;> simp

def kq43 : Kp := [(3, ([0, 5, 10, 11, 12], [264])), (6, ([0, 5, 7, 10, 11, 12, 16, 17, 18], [56, 264]))]
theorem f57o_spec (n1 n2 : Bool) (p : List Int) (l : List Lit) {n : Int} (hp : risingB p n = true) (hpl : p.length ≤ 1000000000) (hl : l.length ≤ 1000000000) (out : List Fr) :
    SpecP Tryz.prog 57 [.ints n1 p, .lits n2 l] out fun r ro => r = accV 264 2 ((litsL p l).map tLit) ∧ ro = accO 264 55 2 ((litsL p l).map tLit) := by
  have hpi := rising_inc hp
  refine spec_body cx_ok kq43 [] (fn := Tryz.f57) (by kernel_rfl) rfl (by kernel_rfl) rfl (by unfold FnOK; kernel_rfl) fun hok => ?_
  refine LoopW.mk (Nat × List Lit) (fun u => u.1 ≤ l.length ∧ u.2 = litsL p (l.take u.1)) (fun u => [(0, .ints n1 p), (5, accV 264 2 (u.2.map tLit)), (10, .lits n2 l), (11, .int (l.map tLit).length), (12, .int u.1)])
    (fun u => ⟨out, accO 264 55 2 (u.2.map tLit)⟩) (fun u => l.length - u.1) (0, []) ⟨Nat.zero_le _, rfl⟩ ⟨rfl, rfl⟩ ?_
  rintro ⟨i, L⟩ ⟨hi0, hL⟩
  simp only at hi0 hL
  have hLl : L.length ≤ 1000000000 := by rw [hL]; have := litsL_len p (l.take i); rw [List.length_take] at this; omega
  cases L
  case' nil => let O : List Lit := []
  case' cons y r => let O : List Lit := y :: r
  all_goals
    have hO : O = litsL p (l.take i) := hL
    have hOl : O.length ≤ 1000000000 := hLl
    refine And.intro (fun h1 => ?_) fun h1 => ?_
    rotate_left
    · have hi : i = l.length := by have := ge_of_dec h1; have : i ≤ l.length := hi0; omega
      rw [hi, List.take_length] at hL
      have hL' : O = litsL p l := hL
      rw [← hL']
      exact Exists.intro [264] ⟨rfl, rfl⟩
    have hi := lt_of_dec h1
    have mall := metL_all p l hi
    rw [← hO] at mall
    refine And.intro (by omega) (Exists.intro _ (And.intro (get_map hi) ?_))
    refine LoopW.mk (Nat × List Lit) (fun u => u.1 ≤ p.length ∧ u.2 = O ++ metL p l[i] u.1) (fun u => [(0, .ints n1 p), (5, accV 264 2 (u.2.map tLit)), (7, .ptr (.cur 56) 0), (10, .lits n2 l), (11, .int (l.map tLit).length), (12, .int i), (16, .ints n1 p), (17, .int (p.map tI).length), (18, .int u.1)])
      (fun u => ⟨out, (56, .box [.int l[i].fact, .bool l[i].neg]) :: accO 264 55 2 (u.2.map tLit)⟩) (fun u => p.length - u.1) (0, O) ⟨Nat.zero_le _, by rw [metL]; simp [hasB]⟩ ⟨rfl, rfl⟩ ?_
    rintro ⟨j, N⟩ ⟨hj0, hN⟩
    simp only at hj0 hN
    have hNl : N.length ≤ 1000000001 := by rw [hN, List.length_append]; have := metL_len p l[i] j; omega
    cases N
    case' nil => let M : List Lit := []
    case' cons z s => let M : List Lit := z :: s
    all_goals
      have hM : M = O ++ metL p l[i] j := hN
      refine And.intro (fun h2 => ?_) fun h2 => ?_
      rotate_left
      · have hj : j = p.length := by have := ge_of_dec h2; have : j ≤ p.length := hj0; omega
        rw [hj, mall] at hM
        refine And.intro (by omega) (And.intro (by omega) ?_)
        exact Exists.intro (i + 1, M) (And.intro (by show l.length - (i + 1) < l.length - i; omega) (And.intro ⟨hi, hM⟩ (And.intro rfl rfl)))
      have hj := lt_of_dec h2
      refine And.intro (by omega) (Exists.intro _ (And.intro (get_map hj) ?_))
      refine And.intro (fun h3 => ?_) fun h3 => ?_
      · have h3 : p[j] = l[i].fact := by simpa using h3
        obtain ⟨g1, g2⟩ := metL_hit hpi hj h3
        have stp : M ++ [⟨(j : Int), l[i].neg⟩] = O ++ metL p l[i] (j + 1) := by rw [hM, g1, g2, List.append_nil]
        have hl4 : ∀ X : List T, ((M.map tLit) ++ [X]).length ≤ 1000000002 := fun X => by
          have : M.length ≤ 1000000001 := hNl
          rw [List.length_append, List.length_map, List.length_singleton]; omega
        refine And.intro (fun h4 => ?_) fun h4 => ?_
        case' refine_1 => let b : Bool := true
        case' refine_2 => let b : Bool := false
        all_goals
          replace h4 : l[i].neg = b := h4
          rw [h4] at stp
          repeat first
            | refine And.intro (Nat.le_of_ble_eq_true rfl) ?_
            | refine And.intro rfl ?_
            | refine And.intro (Nat.le_trans (Nat.mul_le_mul_right _ (hl4 _)) (Nat.le_of_ble_eq_true rfl)) ?_
            | refine And.intro (Nat.le_trans (hl4 _) (Nat.le_of_ble_eq_true rfl)) ?_
          refine And.intro (by show (-9223372036854775808 : Int) ≤ (j : Int) + 1; omega) (And.intro (by show (j : Int) + 1 ≤ 9223372036854775807; omega) ?_)
          first
            | exact Exists.intro (j + 1, [(⟨(j : Int), b⟩ : Lit)]) (And.intro (by show p.length - (j + 1) < p.length - j; omega) (And.intro ⟨hj, stp⟩ (And.intro rfl rfl)))
            | (refine Exists.intro (j + 1, z :: (s ++ [(⟨(j : Int), b⟩ : Lit)])) (And.intro (by show p.length - (j + 1) < p.length - j; omega) (And.intro ⟨hj, stp⟩ ?_))
               have e : (s ++ [(⟨(j : Int), b⟩ : Lit)]).map tLit = s.map tLit ++ [tLit ⟨(j : Int), b⟩] := by simp
               simp only [List.map_cons, e]
               exact And.intro rfl rfl)
      · have h3 : p[j] ≠ l[i].fact := by simpa using h3
        refine And.intro (by show (-9223372036854775808 : Int) ≤ (j : Int) + 1; omega) (And.intro (by show (j : Int) + 1 ≤ 9223372036854775807; omega) ?_)
        exact Exists.intro (j + 1, M) (And.intro (by show p.length - (j + 1) < p.length - j; omega) (And.intro ⟨hj, by show M = O ++ metL p l[i] (j + 1); rw [metL_miss hj h3]; exact hM⟩ (And.intro rfl rfl)))


theorem f57_spec (n1 n2 : Bool) (p : List Int) (l : List Lit) {n : Int} (hp : risingB p n = true) (hpl : p.length ≤ 1000000000) (hl : l.length ≤ 1000000000) (out : List Fr) :
    SpecP Tryz.prog 57 [.ints n1 p, .lits n2 l] out fun r ro => r = .lits (litsL p l).isEmpty (litsL p l) ∧ ro = [] :=
  (f57o_spec n1 n2 p l hp hpl hl out).close fun r ro h => by
    obtain ⟨rfl, rfl⟩ := h
    refine ⟨_, acc_cls (e := 55) fun x r h => by rw [h]; exact look_cons .. |>.trans (if_pos rfl), ?_, rfl⟩
    rw [show ((litsL p l).map tLit).isEmpty = (litsL p l).isEmpty by cases litsL p l <;> rfl]

end Go.Fw

/- What the reference's functions do: closed patterns. -/
namespace Go.Fw
open Go Go.Proofs
set_option maxRecDepth 10000

/-- A fact that a closed pattern would have to contain, too, or -1. -/
def MissR (t : Task) (M : List Int) (x : Int) : Prop := (x = -1 ∧ closedB t M = true) ∨ (∃ a ∈ t.acts, ∃ e ∈ a.effs, ∃ l ∈ e.when_, x = l.fact ∧ hasB M e.lit.fact = true ∧ hasB M l.fact = false)
theorem bool_get {b : List Bool} {x : Int} (h0 : 0 ≤ x) (h1 : x < (b.length : Int)) : (b.map tB)[x.toNat]? = some (tB (hasB (listL b) x)) := by
  obtain ⟨f, rfl⟩ : ∃ f : Nat, x = (f : Int) := ⟨x.toNat, by omega⟩
  have hl : f < b.length := by omega
  rw [hasB_listL, List.getD_eq_getElem?_getD, List.getElem?_map, Int.toNat_natCast, List.getElem?_eq_getElem hl]; rfl
def kq51 : Kp := [(2, ([1, 12, 13, 14], [])), (5, ([1, 12, 13, 14, 19, 20, 21], [])), (9, ([1, 12, 13, 14, 19, 20, 21, 33, 34, 35], []))]
theorem f56_spec (t : Task) (n1 : Bool) (b : List Bool) (TK : TaskOK t) (TL : TaskL t) (hb : b.length = t.facts.length) (out : List Fr) : SpecP Tryz.prog 56 [.task t, .bools n1 b] out fun r ro => (∃ x, MissR t (listL b) x ∧ r = .int x) ∧ ro = [] := by
  refine spec_body cx_ok kq51 [] (fn := Tryz.f56) (by kernel_rfl) rfl (by kernel_rfl) rfl (by unfold FnOK; kernel_rfl) fun hok => ?_
  have hA := TK.acts
  refine LoopW.mk Nat (fun i => i ≤ t.acts.length ∧ ∀ j (hj : j < t.acts.length), j < i → t.acts[j].effs.all (clE (listL b)) = true) (fun i => [(1, .bools n1 b), (12, .t (.sl t.an 4 (t.acts.map tAct))), (13, .int (t.acts.map tAct).length), (14, .int i)])
    (fun _ => ⟨out, []⟩) (fun i => t.acts.length - i) 0 ⟨Nat.zero_le _, fun j _ h => by cases h⟩ ⟨rfl, rfl⟩ fun i hI => ?_
  refine And.intro (fun h1 => ?_) fun h1 => ?_
  rotate_left
  · have hi : t.acts.length ≤ i := ge_of_dec h1
    refine Exists.intro [] ⟨⟨-1, .inl ⟨rfl, List.all_eq_true.2 fun a ha => ?_⟩, rfl⟩, rfl⟩
    obtain ⟨m, hm, rfl⟩ := List.getElem_of_mem ha
    exact hI.2 m hm (by omega)
  have hi := lt_of_dec h1
  have hai : t.acts[i] ∈ t.acts := List.getElem_mem hi
  have hel := TK.effs _ hai
  refine And.intro (by omega) (Exists.intro _ (And.intro (get_map hi) ?_))
  refine LoopW.mk Nat (fun k => k ≤ t.acts[i].effs.length ∧ ∀ j (hj : j < t.acts[i].effs.length), j < k → clE (listL b) t.acts[i].effs[j] = true) (fun k => [(1, .bools n1 b), (12, .t (.sl t.an 4 (t.acts.map tAct))), (13, .int (t.acts.map tAct).length), (14, .int i),
      (19, .t (.sl t.acts[i].en 3 (t.acts[i].effs.map tEff))), (20, .int (t.acts[i].effs.map tEff).length), (21, .int k)])
    (fun _ => ⟨out, []⟩) (fun k => t.acts[i].effs.length - k) 0 ⟨Nat.zero_le _, fun j _ h => by cases h⟩ ⟨rfl, rfl⟩ fun k hK => ?_
  refine And.intro (fun h2 => ?_) fun h2 => ?_
  rotate_left
  · have hk : t.acts[i].effs.length ≤ k := ge_of_dec h2
    refine And.intro (by omega) (And.intro (by omega) ?_)
    refine Exists.intro (i + 1) (And.intro (by show t.acts.length - (i + 1) < t.acts.length - i; omega) (And.intro ⟨hi, fun j hj hji => ?_⟩ (And.intro rfl rfl)))
    rcases Nat.lt_or_ge j i with h | h
    · exact hI.2 j hj h
    · have : j = i := by omega
      subst this
      refine List.all_eq_true.2 fun e he => ?_
      obtain ⟨m, hm, rfl⟩ := List.getElem_of_mem he
      exact hK.2 m hm (by omega)
  have hk := lt_of_dec h2
  have hek : t.acts[i].effs[k] ∈ t.acts[i].effs := List.getElem_mem hk
  have hlit := TK.lit _ hai _ hek
  have hwh := TK.whn _ hai _ hek
  have hwl := TL.whn _ hai _ hek
  have next : clE (listL b) t.acts[i].effs[k] = true → (k + 1 ≤ t.acts[i].effs.length ∧ ∀ j (hj : j < t.acts[i].effs.length), j < k + 1 → clE (listL b) t.acts[i].effs[j] = true) := fun hc => ⟨hk, fun j hj hjk => by
    rcases Nat.lt_or_ge j k with h | h
    · exact hK.2 j hj h
    · have : j = k := by omega
      subst this; exact hc⟩
  refine And.intro (by omega) (Exists.intro _ (And.intro (get_map hk) ?_))
  refine And.intro hlit.1 (Exists.intro _ (And.intro (bool_get hlit.1 (by rw [hb]; exact hlit.2)) ?_))
  refine And.intro (fun h3 => ?_) fun h3 => ?_
  rotate_left
  · have h3 : hasB (listL b) t.acts[i].effs[k].lit.fact = false := h3
    refine And.intro (by omega) (And.intro (by omega) ?_)
    exact Exists.intro (k + 1) (And.intro (by show t.acts[i].effs.length - (k + 1) < t.acts[i].effs.length - k; omega) (And.intro (next (clE_iff.2 fun h => by rw [h3] at h; cases h)) (And.intro rfl rfl)))
  have h3 : hasB (listL b) t.acts[i].effs[k].lit.fact = true := h3
  refine LoopW.mk Nat (fun w => w ≤ t.acts[i].effs[k].when_.length ∧ ∀ v (hv : v < t.acts[i].effs[k].when_.length), v < w → hasB (listL b) t.acts[i].effs[k].when_[v].fact = true) (fun w => [(1, .bools n1 b), (12, .t (.sl t.an 4 (t.acts.map tAct))), (13, .int (t.acts.map tAct).length), (14, .int i),
      (19, .t (.sl t.acts[i].en 3 (t.acts[i].effs.map tEff))), (20, .int (t.acts[i].effs.map tEff).length), (21, .int k),
      (33, .t (.sl t.acts[i].effs[k].nil 2 (t.acts[i].effs[k].when_.map tLit))), (34, .int (t.acts[i].effs[k].when_.map tLit).length), (35, .int w)])
    (fun _ => ⟨out, []⟩) (fun w => t.acts[i].effs[k].when_.length - w) 0 ⟨Nat.zero_le _, fun v _ h => by cases h⟩ ⟨rfl, rfl⟩ fun w hW => ?_
  refine And.intro (fun h4 => ?_) fun h4 => ?_
  rotate_left
  · have hw : t.acts[i].effs[k].when_.length ≤ w := ge_of_dec h4
    refine And.intro (by omega) (And.intro (by omega) ?_)
    refine Exists.intro (k + 1) (And.intro (by show t.acts[i].effs.length - (k + 1) < t.acts[i].effs.length - k; omega) (And.intro (next (clE_iff.2 fun _ l hl => ?_)) (And.intro rfl rfl)))
    obtain ⟨v, hv, rfl⟩ := List.getElem_of_mem hl
    exact hW.2 v hv (by omega)
  have hw := lt_of_dec h4
  have hwm : t.acts[i].effs[k].when_[w] ∈ t.acts[i].effs[k].when_ := List.getElem_mem hw
  have hlw := hwh _ hwm
  refine And.intro (by omega) (Exists.intro _ (And.intro (get_map hw) ?_))
  refine And.intro hlw.1 (Exists.intro _ (And.intro (bool_get hlw.1 (by rw [hb]; exact hlw.2)) ?_))
  refine And.intro (fun h5 => ?_) fun h5 => ?_
  · have h5 : hasB (listL b) t.acts[i].effs[k].when_[w].fact = true := h5
    refine And.intro (by omega) (And.intro (by omega) ?_)
    refine Exists.intro (w + 1) (And.intro (by show t.acts[i].effs[k].when_.length - (w + 1) < t.acts[i].effs[k].when_.length - w; omega) (And.intro ⟨hw, fun v hv hvw => ?_⟩ (And.intro rfl rfl)))
    rcases Nat.lt_or_ge v w with h | h
    · exact hW.2 v hv h
    · have : v = w := by omega
      subst this; exact h5
  · exact Exists.intro [] ⟨⟨_, .inr ⟨_, hai, _, hek, _, hwm, rfl, h3, h5⟩, rfl⟩, rfl⟩

theorem f17c_spec (n1 : Bool) (b : List Bool) (hb : b.length ≤ 1000000000) (out : List Fr) : SpecP Tryz.prog 17 [.bools n1 b] out fun r ro => r = .ints (listL b).isEmpty (listL b) ∧ ro = [] :=
  (f17_spec n1 b hb out).close fun r ro h => by
    obtain ⟨rfl, rfl⟩ := h
    refine ⟨_, acc_cls (e := 3) fun x r h => by rw [h]; exact look_cons .. |>.trans (if_pos rfl), ?_, rfl⟩
    rw [show ((listL b).map tI).isEmpty = (listL b).isEmpty by cases listL b <;> rfl]

theorem bits_has {n : Nat} {p : List Int} (hp : risingB p n = true) (x : Int) : hasB (listL (bitsL n p)) x = hasB p x := by
  by_cases h : x < 0
  · rw [Bool.eq_iff_iff]
    constructor
    · intro h1; have := listL_in _ x (hasB_mem.1 h1); omega
    · intro h1; have := rising_in hp x (hasB_mem.1 h1); omega
  obtain ⟨f, rfl⟩ : ∃ f : Nat, x = (f : Int) := ⟨x.toNat, by omega⟩
  rcases Nat.lt_or_ge f n with hf | hf
  · rw [hasB_listL, bits_get (rising_in hp) hf]
  · rw [Bool.eq_iff_iff]
    constructor
    · intro h1; have := listL_in _ _ (hasB_mem.1 h1); rw [bitsL_length] at this; omega
    · intro h1; have := rising_in hp _ (hasB_mem.1 h1); omega

theorem whole_row {b : List Bool} {n : Nat} (h : b.length = n) : b.map tB = ((b.map tB).drop 0).take n := by
  rw [List.drop_zero, List.take_of_length_le (by rw [List.length_map]; omega)]
def oq28 : Od := [(1, [(0, .pure), (1, .pure), (2, .pure), (3, .pure), (4, .pure), (5, .eff), (6, .eff), (7, .pure), (8, .pure)])]
theorem f32_spec (t : Task) (n1 : Bool) (p : List Int) (ht : isB t = true) (hp : risingB p t.facts.length = true) (out : List Fr) : SpecP Tryz.prog 32 [.task t, .ints n1 p] out fun r ro => r = .bool (closedB t p) ∧ ro = [] := by
  have TK := task_ok ht
  have hN := TK.facts
  refine spec_body cx_ok [] oq28 (fn := Tryz.f32) (by kernel_rfl) rfl (by kernel_rfl) rfl (by unfold FnOK; kernel_rfl) fun hok => ?_
  have hfl : (t.facts.map tS).length = t.facts.length := List.length_map ..
  refine SpecP.mono (f15_spec (t.facts.map tS).length n1 p (by omega) (by rw [hfl]; exact rising_in hp) []) ?_
  rintro _ _ ⟨rfl, rfl⟩
  refine And.intro ⟨rfl, rfl, rfl⟩ (Exists.intro ((bitsL (t.facts.map tS).length p).map tB) (And.intro (whole_row (bitsL_length ..)) (And.intro (by rw [List.length_map (f := tB), bitsL_length]; omega) ?_)))
  refine SpecP.mono (f56_spec t false (bitsL (t.facts.map tS).length p) TK (task_l ht) (by rw [bitsL_length, hfl]) _) ?_
  rintro _ _ ⟨⟨x, hx, rfl⟩, rfl⟩
  refine And.intro trivial (And.intro trivial (And.intro ⟨rfl, rfl, rfl⟩ ?_))
  rw [hfl] at hx
  have hc : closedB t (listL (bitsL t.facts.length p)) = closedB t p := closedB_congr (bits_has hp)
  refine And.intro (fun h => ?_) fun h => ?_
  · refine Exists.intro [] (ret_bool ?_ rfl)
    have h : x < 0 := of_decide_eq_true h
    rcases hx with ⟨_, h1⟩ | ⟨a, ha, e, he, l, hl, rfl, h2, h3⟩
    · rw [← hc]; exact h1
    · have := (TK.whn _ ha _ he _ hl).1; omega
  · refine Exists.intro [] (ret_bool ?_ rfl)
    have h : ¬ x < 0 := of_decide_eq_false h
    rcases hx with ⟨rfl, h1⟩ | ⟨a, ha, e, he, l, hl, rfl, h2, h3⟩
    · omega
    · rw [bits_has hp] at h2 h3
      cases hq : closedB t p with
      | false => rfl
      | true => 
        have := clE_iff.1 (List.all_eq_true.1 (List.all_eq_true.1 hq _ ha) _ he) h2 _ hl
        rw [h3] at this; cases this

theorem set_has {b : List Bool} {x : Int} (h0 : 0 ≤ x) (h1 : x < (b.length : Int)) (y : Int) : hasB (listL (b.set x.toNat true)) y = (hasB (listL b) y || x == y) := by
  by_cases h : y < 0
  · have e : ∀ c : List Bool, hasB (listL c) y = false := fun c => by
      cases hc : hasB (listL c) y with
      | false => rfl
      | true => have := listL_in _ y (hasB_mem.1 hc); omega
    rw [e, e, Bool.false_or]
    symm; simp; omega
  obtain ⟨f, rfl⟩ : ∃ f : Nat, y = (f : Int) := ⟨y.toNat, by omega⟩
  obtain ⟨g, rfl⟩ : ∃ g : Nat, x = (g : Int) := ⟨x.toNat, by omega⟩
  rw [hasB_listL, hasB_listL, List.getD_eq_getElem?_getD, List.getD_eq_getElem?_getD, Int.toNat_natCast, List.getElem?_set]
  by_cases hgf : g = f
  · subst hgf
    have : g < b.length := by omega
    simp [this]
  · rw [if_neg hgf]
    have : ((g : Int) == (f : Int)) = false := by simpa using fun h : (g : Int) = f => hgf (by omega)
    rw [this, Bool.or_false]
theorem count_set : ∀ {b : List Bool} {i : Nat}, b[i]? = some false → (b.set i true).count false < b.count false
  | [], i, h => by simp at h
  | c :: r, 0, h => by simp at h; subst h; simp
  | c :: r, i + 1, h => by
    have := count_set (b := r) (i := i) (by simpa using h)
    rw [List.set_cons_succ, List.count_cons, List.count_cons]; omega

def kq29 : Kp := [(3, ([2, 5, 6], [16, 89000339]))]
end Go.Fw

/- How many states there are; the example of the laws. -/
namespace Go.Fw
open Go Go.Proofs
set_option maxRecDepth 10000

/-! ### Few states -/
def subsR : Nat → List (List Int)
  | 0 => [[]]
  | n + 1 => subsR n ++ (subsR n).map fun l => l ++ [(n : Int)]
theorem subsR_len : ∀ n, (subsR n).length = 2 ^ n
  | 0 => rfl
  | n + 1 => by rw [subsR, List.length_append, List.length_map, subsR_len n, Nat.pow_succ]; omega
theorem subsR_mem : ∀ (n : Nat) (l : List Int), l.Pairwise (· < ·) → (∀ x ∈ l, 0 ≤ x ∧ x < (n : Int)) → l ∈ subsR n
  | 0, l, _, h => by
    cases l with
    | nil => exact List.mem_cons_self ..
    | cons x r => have := h x (List.mem_cons_self ..); omega
  | n + 1, l, hi, h => by
    rw [subsR, List.mem_append]
    rcases List.eq_nil_or_concat l with rfl | ⟨l', x, rfl⟩
    · exact .inl (subsR_mem n [] .nil fun x hx => by cases hx)
    rw [List.concat_eq_append] at hi h ⊢
    obtain ⟨h1, _, h3⟩ := List.pairwise_append.1 hi
    have hx := h x (by simp)
    have hl : ∀ y ∈ l', 0 ≤ y ∧ y < x := fun y hy => ⟨(h y (by simp [hy])).1, h3 y hy x (by simp)⟩
    by_cases hxn : x = (n : Int)
    · right
      subst hxn
      exact List.mem_map.2 ⟨l', subsR_mem n l' h1 hl, rfl⟩
    · left
      refine subsR_mem n _ hi fun y hy => ?_
      rcases List.mem_append.1 hy with hy | hy
      · have := hl y hy; omega
      · simp at hy; subst hy; omega
theorem rising_many {S : List (List Int)} {n : Nat} (hS : S.Nodup) (hr : ∀ s ∈ S, risingB s n = true) : S.length ≤ 2 ^ n := by
  rw [← subsR_len]
  exact Dij.nodup_sub hS fun s hs => subsR_mem n s (rising_inc (hr s hs)) (rising_in (hr s hs))
theorem way_rising {u : Task} {s s' : List Int} {d : Int} (hs : risingB s u.facts.length = true) (p : Way u s d s') : risingB s' u.facts.length = true := by
  induction p with
  | nil => exact hs
  | cons he _ ih => exact ih (succ_rising _ he)
/-- With few facts there are not too many states. -/
theorem OptR.small {u : Task} {s : List Int} {r : LV} (hs : risingB s u.facts.length = true) (hn : u.facts.length ≤ 14) (h : OptR u s r) :
    (r = .tup [.int 0, .int 4] ∧ ∀ s' d, Way u s d s' → holdsB s' u.goal = false) ∨ ∃ c : Int, 0 ≤ c ∧ c ≤ 2000000000 ∧ Dij.Opt (succ u) (fun x => holdsB x u.goal) s c ∧ r = .tup [.int c, .int 0] := by
  cases h with
  | space S hS hr hl =>
    have h1 := rising_many hS fun x hx => by obtain ⟨d, p⟩ := hr x hx; exact way_rising hs p
    have h2 := Nat.pow_le_pow_right (show 0 < 2 by decide) hn
    have : 2 ^ 14 = 16384 := rfl
    omega
  | none S hW hl hg => exact .inl ⟨rfl, fun s' d p => hg s' (hW.mem p)⟩
  | ok S hW hl c h0 hb hc => exact .inr ⟨c, h0, hb, hc, rfl⟩

/-! ### The example -/
def sHere : ByteArray := ⟨#[104, 101, 114, 101]⟩
def sThere : ByteArray := ⟨#[116, 104, 101, 114, 101]⟩
def sGo : ByteArray := ⟨#[103, 111]⟩
def exAct : Actn := ⟨sGo, 2, false, [⟨0, false⟩], false, [⟨true, [], ⟨0, true⟩⟩, ⟨true, [], ⟨1, false⟩⟩]⟩
def exTask : Task := ⟨false, [sHere, sThere], false, [0], false, [⟨1, false⟩], false, [exAct]⟩
/-- The action, as the program builds it. -/
def exActT : List T := [.v (.string sGo), .v (.int .i64 2), .sl false 2 [tLit ⟨0, false⟩], .sl false 3 [[.sl true 0 [], .v (.int .i64 0), .v (.bool true)], [.sl true 0 [], .v (.int .i64 1), .v (.bool false)]]]
theorem f22_spec (out : List Fr) : SpecP Tryz.prog 22 [] out fun r ro => r = .task exTask ∧ ro = [] := by
  refine SpecP.close (Post := fun r ro => r = .agg [.osl (.cur 80) 1 0 2, .osl (.cur 88) 1 0 1, .osl (.cur 104) 2 0 1, .osl (.cur 120) 4 0 1] ∧
    ro = [(80, .row 9 1 [tS sHere, tS sThere]), (88, .row 3 1 [tI 0]), (104, .row 55 2 [tLit ⟨1, false⟩]), (120, .row 53 4 [exActT])]) ?_ ?_
  · refine spec_body cx_ok [] [] (fn := Tryz.f22) (by kernel_rfl) rfl (by kernel_rfl) rfl (by unfold FnOK; kernel_rfl) fun hok => ?_
    refine And.intro (Nat.le_of_ble_eq_true rfl) (And.intro (Nat.le_of_ble_eq_true rfl) ?_)
    exact Exists.intro [80, 88, 104, 120] (And.intro rfl rfl)
  · rintro r ro ⟨rfl, rfl⟩
    refine ⟨.task exTask, .agg _ [.t (.sl false 1 [tS sHere, tS sThere]), .t (.sl false 1 [tI 0]), .t (.sl false 2 [tLit ⟨1, false⟩]), .t (.sl false 4 [tAct exAct])] rfl fun i x y hx hy => ?_, rfl, rfl⟩
    match i with
    | 0 => simp at hx hy; subst hx hy; exact .row 80 9 1 0 2 [tS sHere, tS sThere] rfl (Nat.le_refl 2)
    | 1 => simp at hx hy; subst hx hy; exact .row 88 3 1 0 1 [tI 0] rfl (Nat.le_refl 1)
    | 2 => simp at hx hy; subst hx hy; exact .row 104 55 2 0 1 [tLit ⟨1, false⟩] rfl (Nat.le_refl 1)
    | 3 => simp at hx hy; subst hx hy; exact .trans _ _ _ (.row 120 53 4 0 1 [exActT] rfl (Nat.le_refl 1)) (.un _ _ rfl)
    | i + 4 => simp at hx

theorem ex_is : isB exTask = true := by decide
theorem ex_given : ∀ l ∈ [[(false, [1])], [(false, [0])], [(false, [0]), (false, [1])]], givenI exTask [0] l = 0 := by decide
theorem ex_way {u : Task} (hc : ∀ a ∈ u.acts, a.cost = 2) {s s' : List Int} {d : Int} (p : Way u s d s') : (s' = s ∧ d = 0) ∨ 2 ≤ d := by
  have h0 : ∀ x, ∀ e ∈ succ u x, e.1 = 2 := fun x e he => by
    obtain ⟨a, ha, rfl⟩ := List.mem_map.1 he
    exact hc a (List.mem_filter.1 ha).1
  have hn : ∀ x, ∀ e ∈ succ u x, 0 ≤ e.1 := fun x e he => by rw [h0 x e he]; decide
  cases p with
  | nil => exact .inl ⟨rfl, rfl⟩
  | cons he p =>
    have h1 := h0 _ _ he
    have h2 := p.nonneg hn
    right
    simp only at h1
    omega
/-- What the patterns of the example say. -/
theorem ex_says1 {r : LV} (h : OptR (projT exTask [1]) (factsL [1] [0]) r) : r = .tup [.int 2, .int 0] := by
  have hf : factsL [1] [0] = [] := by decide
  rw [hf] at h
  have hp : Way (projT exTask [1]) [] (2 + 0) [0] := .cons (s' := [0]) (by decide) (.nil _)
  rcases h.small (by decide) (by decide) with ⟨_, h1⟩ | ⟨c, h0, _, ⟨⟨s', hg, p⟩, hm⟩, rfl⟩
  · exact absurd (h1 _ _ hp) (by decide)
  · have h1 := hm _ _ (by decide) hp
    rcases ex_way (by decide) p with ⟨rfl, _⟩ | h2
    · exact absurd hg (by decide)
    · rw [show c = 2 by omega]
theorem ex_says0 {r : LV} (h : OptR (projT exTask [0]) (factsL [0] [0]) r) : r = .tup [.int 0, .int 0] := by
  have hf : factsL [0] [0] = [0] := by decide
  rw [hf] at h
  rcases h.small (by decide) (by decide) with ⟨_, h1⟩ | ⟨c, h0, _, ⟨_, hm⟩, rfl⟩
  · exact absurd (h1 _ _ (.nil _)) (by decide)
  · have h1 := hm _ _ (by decide) (.nil _)
    rw [show c = 0 by omega]

end Go.Fw

/- What the laws look at first: the example comes out right. -/
namespace Go.Fw
open Go Go.Proofs
set_option maxRecDepth 10000

theorem ex_cost1 {r : LV} (h : CostR exTask false [1] [0] r) : r = .tup [.int 2, .int 0] := by
  cases h with
  | bad h => exact absurd (ex_given _ (by simp)) h
  | ok _ r hr => exact ex_says1 hr
theorem ex_cost0 {r : LV} (h : CostR exTask false [0] [0] r) : r = .tup [.int 0, .int 0] := by
  cases h with
  | bad h => exact absurd (ex_given _ (by simp)) h
  | ok _ r hr => exact ex_says0 hr
theorem ex_best {r : LV} (h : BestR exTask [0] [(false, [0]), (false, [1])] r) : r = .tup [.int 2, .int 0] := by
  cases h with
  | bad h => exact absurd (ex_given _ (by simp)) h
  | space _ p hp hr =>
    simp only [List.mem_cons, List.not_mem_nil, or_false] at hp
    rcases hp with rfl | rfl
    · have := ex_says0 hr; cases this
    · have := ex_says1 hr; cases this
  | none _ p hp hr =>
    simp only [List.mem_cons, List.not_mem_nil, or_false] at hp
    rcases hp with rfl | rfl
    · have := ex_says0 hr; cases this
    · have := ex_says1 hr; cases this
  | ok _ C hl hC =>
    match C, hl with
    | [a, b], _ =>
      have h0 := ex_says0 (hC 0 a _ rfl rfl)
      have h1 := ex_says1 (hC 1 b _ rfl rfl)
      cases h0
      cases h1
      rw [if_neg (show ¬ addB exTask [(false, [0]), (false, [1])] = true by decide)]
      rfl

theorem f6_spec (out : List Fr) : SpecP Tryz.prog 6 [] out fun r ro => r = .bool true ∧ ro = [] := by
  refine spec_body cx_ok [] [] (fn := Tryz.f6) (by kernel_rfl) rfl (by kernel_rfl) rfl (by unfold FnOK; kernel_rfl) fun hok => ?_
  refine SpecP.mono (f22_spec []) ?_
  rintro _ _ ⟨rfl, rfl⟩
  refine Exists.intro [tI 1] (And.intro rfl (And.intro (Nat.le_of_ble_eq_true rfl) ?_))
  refine Exists.intro [tI 0] (And.intro rfl (And.intro (Nat.le_of_ble_eq_true rfl) ?_))
  refine SpecP.mono (f12_spec exTask false false [1] [0] _) ?_
  rintro _ _ ⟨hr, rfl⟩
  have := ex_cost1 hr
  subst this
  clear hr
  refine And.intro ⟨trivial, trivial, trivial⟩ (And.intro trivial ?_)
  refine Exists.intro [tI 0] (And.intro rfl (And.intro (Nat.le_of_ble_eq_true rfl) ?_))
  refine Exists.intro [tI 0] (And.intro rfl (And.intro (Nat.le_of_ble_eq_true rfl) ?_))
  refine SpecP.mono (f12_spec exTask false false [0] [0] _) ?_
  rintro _ _ ⟨hr, rfl⟩
  have := ex_cost0 hr
  subst this
  clear hr
  refine And.intro ⟨trivial, trivial, trivial⟩ (And.intro trivial ?_)
  refine And.intro (Nat.le_of_ble_eq_true rfl) (And.intro (Nat.le_of_ble_eq_true rfl) ?_)
  refine Exists.intro (tLs [(false, [0]), (false, [1])]) (And.intro rfl (And.intro (Nat.le_of_ble_eq_true rfl) ?_))
  refine Exists.intro [tI 0] (And.intro rfl (And.intro (Nat.le_of_ble_eq_true rfl) ?_))
  refine SpecP.mono (f9_spec exTask false false [(false, [0]), (false, [1])] [0] (by decide) _) ?_
  rintro _ _ ⟨hr, rfl⟩
  have := ex_best hr
  subst this
  clear hr
  refine And.intro ⟨trivial, trivial, trivial⟩ (And.intro trivial ?_)
  refine And.intro (fun _ => ?_) fun h => Bool.noConfusion h
  refine And.intro (fun _ => ?_) fun h => Bool.noConfusion h
  refine And.intro (fun _ => ?_) fun h => Bool.noConfusion h
  refine And.intro (fun _ => ?_) fun h => Bool.noConfusion h
  refine And.intro (fun _ => ?_) fun h => Bool.noConfusion h
  refine And.intro (fun _ => ?_) fun h => Bool.noConfusion h
  exact Exists.intro [] (ret_bool rfl rfl)

end Go.Fw

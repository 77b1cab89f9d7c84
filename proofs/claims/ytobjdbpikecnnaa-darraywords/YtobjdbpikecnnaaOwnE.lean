/- A value semantics of the model's programs, sound against it, and functions read off the given program with the proofs that it runs so; no condition. -/
import Derived.Test.YtobjdbpikecnnaaOwnD
import Derived.Test.YtobjdbpikecnnaaOwnC
set_option linter.all false
set_option linter.unnecessarySimpa false
set_option linter.unusedVariables false
set_option linter.unusedSimpArgs false
/- part GW52 -/
/- scansion/dawg.walk runs as it is read off. -/
namespace Go.Val
set_option linter.unusedVariables false
set_option linter.unusedSimpArgs false
set_option maxRecDepth 20000
open Go.Proofs
theorem dawg_walk_runs (g : TGraph) (word : Str) {h : Heap} {a : (List Int × Bool)} (e : dawg_walk g word = some a) :
    Runs CT 52 [.cv (.val (.agg [.sl (List.map eB g.Final), .sl (List.map (eL eEdge) g.Edges)])), .cv (.val (.str (bs word)))] h fun o h' => o = [.cv (.val (.sl (List.map eI a.1))), .cv (.val (.bool a.2))] ∧ h' = h := by
  refine Runs.start Try.f52 _ Try.func52 rfl (by rw [Try.ntmps52]; simp) (by rfl) (by rfl) (fun hwf hu => ?_)
  obtain ⟨D, hD, hr⟩ : ∃ D : (List Int × Bool) → Prop, (∀ z, D z → z = a) ∧ Holds (dawg_walk g word) D := ⟨fun z => z = a, fun _ h => h, Holds.intro e rfl⟩
  dsimp only [dawg_walk] at hr
  change wpCode _ _ _ _ _ ⟨[(0, .cv (.val (.agg [.sl (List.map eB g.Final), .sl (List.map (eL eEdge) g.Edges)]))), (1, .cv (.val (.str (bs word))))], h.on []⟩
  refine w_seq ?_
  refine w_region rfl (by simp (disch := (apply Apart.mk; decide)) only [go_sem, Nat.reduceAdd, Nat.reduceLT, Nat.reduceMul, Nat.reduceLeDiff, Int.reduceToNat, Int.reduceLT, Int.reduceLE]; rfl) ?_
  refine (w_n ?_)
  refine w_seq ?_
  refine w_region rfl (by simp (disch := (apply Apart.mk; decide)) only [go_sem, Nat.reduceAdd, Nat.reduceLT, Nat.reduceMul, Nat.reduceLeDiff, Int.reduceToNat, Int.reduceLT, Int.reduceLE]; rfl) ?_
  refine (w_n ?_)
  refine w_seq ?_
  refine w_seq ?_
  refine w_region rfl (by simp (disch := (apply Apart.mk; decide)) only [go_sem, Nat.reduceAdd, Nat.reduceLT, Nat.reduceMul, Nat.reduceLeDiff, Int.reduceToNat, Int.reduceLT, Int.reduceLE]; rfl) ?_
  refine (w_n ?_)
  refine w_K (D := D) (fun xX : List Int => ⟨[(6, .cv (.row 3 (List.map eI xX)))], h.on []⟩) (fun xX : List Int => dawg_walk.k1 xX) (fun xX s' hr ht => ?_) ?_
  · obtain ⟨at_, rfl⟩ : ∃ z, z = xX := ⟨xX, rfl⟩
    dsimp only [dawg_walk.k1] at hr ht
    refine (w_nT ht ?_)
    refine w_seq ?_
    refine w_region rfl (by simp (disch := (apply Apart.mk; decide)) only [go_sem, Nat.reduceAdd, Nat.reduceLT, Nat.reduceMul, Nat.reduceLeDiff, Int.reduceToNat, Int.reduceLT, Int.reduceLE]; rfl) ?_
    refine (w_n ?_)
    refine w_ret ?_
    obtain rfl := hD _ hr
    exact (w_endR (.fix _ _ (.slot 4) 3 _ (by simp (disch := (apply Apart.mk; decide)) only [go_sem, Nat.reduceAdd, Nat.reduceLT, Nat.reduceMul, Nat.reduceLeDiff, Int.reduceToNat, Int.reduceLT, Int.reduceLE]; rfl) (To.cut (os' := []) (sl := [(4, .cv (.val (.sl (List.map eI at_)))), (5, .cv (.val (.bool true)))]) hwf (Nat.le_refl _) rfl (by simp (disch := (apply Apart.mk; decide)) only [go_sem, Nat.reduceAdd, Nat.reduceLT, Nat.reduceMul, Nat.reduceLeDiff, Int.reduceToNat, Int.reduceLT, Int.reduceLE]))) (by simp (disch := (apply Apart.mk; decide)) only [go_sem, Nat.reduceAdd, Nat.reduceLT, Nat.reduceMul, Nat.reduceLeDiff, Int.reduceToNat, Int.reduceLT, Int.reduceLE, Try.results52, results_data CT_gives52, resCell, resVal.eq_2, loadOp_sv]) ⟨rfl, on_nil hwf⟩)
  · refine w_block ?_
    refine w_Loop (fun xX : (List Int × Int) => ⟨[(2, .cv (.val (.ptr (some (h.n + 0, 0))))), (3, .cv (.val (.ptr (some (h.n + 1, 0))))), (6, .cv (.row 3 (List.map eI xX.1))), (16, .cv (.val (.int .i64 (word.length : Int)))), (17, .cv (.val (.int .i64 xX.2)))], h.on [some (.cells [.val (.sl (List.map eB g.Final)), .val (.sl (List.map (eL eEdge) g.Edges))]), some (.cells [.val (.str (bs word))])]⟩) hr (To.cut hwf (Nat.le_refl _) rfl (by simp (disch := (apply Apart.mk; decide)) only [go_sem, Nat.reduceAdd, Nat.reduceLT, Nat.reduceMul, Nat.reduceLeDiff, Int.reduceToNat, Int.reduceLT, Int.reduceLE])) (fun W1 xX hr => ?_)
    obtain ⟨at_1, v⟩ := xX
    dsimp only [dawg_walk.b1] at hr
    refine w_seq ?_
    refine w_region rfl (by simp (disch := (apply Apart.mk; decide)) only [go_sem, Nat.reduceAdd, Nat.reduceLT, Nat.reduceMul, Nat.reduceLeDiff, Int.reduceToNat, Int.reduceLT, Int.reduceLE]; rfl) ?_
    refine (w_n ?_)
    refine w_seq ?_
    refine w_condH (by simp (disch := (apply Apart.mk; decide)) only [go_sem, Nat.reduceAdd, Nat.reduceLT, Nat.reduceMul, Nat.reduceLeDiff, Int.reduceToNat, Int.reduceLT, Int.reduceLE]) hr (fun cF1 hr => ?_) (fun cF1 hr => ?_)
    · refine w_skip ?_
      refine (w_n ?_)
      refine w_seq ?_
      refine w_block ?_
      refine w_seq ?_
      refine w_region rfl (by simp (disch := (apply Apart.mk; decide)) only [go_sem, Nat.reduceAdd, Nat.reduceLT, Nat.reduceMul, Nat.reduceLeDiff, Int.reduceToNat, Int.reduceLT, Int.reduceLE, cF1]; rfl) ?_
      refine (w_n ?_)
      refine w_seq ?_
      refine w_drawn [0, 1, 2, 3, 4, 5, 6, 7, 8] (by rfl) ?_
      obtain ⟨n, nF2, eF3, gF4, hr⟩ := hr.idx
      obtain ⟨xs, nF5, eF6, gF7, hr⟩ := hr.idx
      refine p_run (l := [0, 1, 2, 3, 4, 5, 6, 7]) (pend' := [7, 6, 5, 4, 3, 2, 1, 0]) (by simp (disch := (apply Apart.mk; decide)) only [go_sem, Nat.reduceAdd, Nat.reduceLT, Nat.reduceMul, Nat.reduceLeDiff, Int.reduceToNat, Int.reduceLT, Int.reduceLE, nF2, eF3, gF4, nF5, eF6, gF7]; rfl) rfl ?_
      refine p_op (pend' := []) rfl (by simp (disch := (apply Apart.mk; decide)) only [go_sem, Nat.reduceAdd, Nat.reduceLT, Nat.reduceMul, Nat.reduceLeDiff, Int.reduceToNat, Int.reduceLT, Int.reduceLE, nF2, eF3, gF4, nF5, eF6, gF7]) (by simp (disch := (apply Apart.mk; decide)) only [go_sem, Nat.reduceAdd, Nat.reduceLT, Nat.reduceMul, Nat.reduceLeDiff, Int.reduceToNat, Int.reduceLT, Int.reduceLE, nF2, eF3, gF4, nF5, eF6, gF7]; rfl) (by rfl) ?_
      refine p_end (by simp (disch := (apply Apart.mk; decide)) only [go_sem, Nat.reduceAdd, Nat.reduceLT, Nat.reduceMul, Nat.reduceLeDiff, Int.reduceToNat, Int.reduceLT, Int.reduceLE, nF2, eF3, gF4, nF5, eF6, gF7]) ?_
      refine (w_n ?_)
      refine w_seq ?_
      refine w_ops rfl ?_
      refine w_upto 2 rfl (by simp (disch := (apply Apart.mk; decide)) only [go_sem, Nat.reduceAdd, Nat.reduceLT, Nat.reduceMul, Nat.reduceLeDiff, Int.reduceToNat, Int.reduceLT, Int.reduceLE]; rfl) ?_
      obtain ⟨r, eF8, hr⟩ := hr.bind
      refine w_call' (out := ?o_eF8) (hp := ?p_eF8) rfl (by simp (disch := (apply Apart.mk; decide)) only [go_sem, Nat.reduceAdd, Nat.reduceLT, Nat.reduceMul, Nat.reduceLeDiff, Int.reduceToNat, Int.reduceLT, Int.reduceLE, Option.getD_some]; rfl) (by simp (disch := (apply Apart.mk; decide)) only [go_sem, Nat.reduceAdd, Nat.reduceLT, Nat.reduceMul, Nat.reduceLeDiff, Int.reduceToNat, Int.reduceLT, Int.reduceLE, Option.getD_some]; rfl) (by simp (disch := (apply Apart.mk; decide)) only [go_sem, Nat.reduceAdd, Nat.reduceLT, Nat.reduceMul, Nat.reduceLeDiff, Int.reduceToNat, Int.reduceLT, Int.reduceLE, Option.getD_some]; rfl) ?c_eF8 ?d_eF8 ?_
      case c_eF8 => (refine slices_IndexFunc_api_Edge_api_Edge_runs xs (fun x0 => dawg_walk_1 x0 word v) _ _ ?_ eF8; (exact (fun os x0 r e => dawg_walk_1_runs x0 word v (h.n + 1) (h.n + 2) (by simp (disch := (apply Apart.mk; decide)) only [go_sem, Nat.reduceAdd, Nat.reduceLT, Nat.reduceMul, Nat.reduceLeDiff, Int.reduceToNat, Int.reduceLT, Int.reduceLE]) (by simp (disch := (apply Apart.mk; decide)) only [go_sem, Nat.reduceAdd, Nat.reduceLT, Nat.reduceMul, Nat.reduceLeDiff, Int.reduceToNat, Int.reduceLT, Int.reduceLE]) (by first | omega | assumption | exact Ne.symm (by assumption)) e)))
      case d_eF8 => rfl
      refine w_ops_end (by simp (disch := (apply Apart.mk; decide)) only [go_sem, Nat.reduceAdd, Nat.reduceLT, Nat.reduceMul, Nat.reduceLeDiff, Int.reduceToNat, Int.reduceLT, Int.reduceLE]; rfl) ?_
      refine (w_n ?_)
      refine w_seq ?_
      refine w_seq ?_
      refine w_region rfl (by simp (disch := (apply Apart.mk; decide)) only [go_sem, Nat.reduceAdd, Nat.reduceLT, Nat.reduceMul, Nat.reduceLeDiff, Int.reduceToNat, Int.reduceLT, Int.reduceLE, cF1]; rfl) ?_
      refine (w_n ?_)
      refine w_condH (by simp (disch := (apply Apart.mk; decide)) only [go_sem, Nat.reduceAdd, Nat.reduceLT, Nat.reduceMul, Nat.reduceLeDiff, Int.reduceToNat, Int.reduceLT, Int.reduceLE, cF1]) hr (fun cF9 hr => ?_) (fun cF9 hr => ?_)
      · refine w_seq ?_
        refine w_region rfl (by simp (disch := (apply Apart.mk; decide)) only [go_sem, Nat.reduceAdd, Nat.reduceLT, Nat.reduceMul, Nat.reduceLeDiff, Int.reduceToNat, Int.reduceLT, Int.reduceLE, cF1, cF9]; rfl) ?_
        refine (w_n ?_)
        refine w_ret ?_
        obtain rfl := hD _ hr
        exact (w_tr (w_br (w_tr (w_tr (w_br (w_tr (w_tr (w_endR (To.cut (os' := []) (sl := [(4, .cv (.val (.sl (List.map eI ([] : List Int))))), (5, .cv (.val (.bool false)))]) hwf (Nat.le_refl _) rfl (by simp (disch := (apply Apart.mk; decide)) only [go_sem, Nat.reduceAdd, Nat.reduceLT, Nat.reduceMul, Nat.reduceLeDiff, Int.reduceToNat, Int.reduceLT, Int.reduceLE, cF1, cF9])) (by simp (disch := (apply Apart.mk; decide)) only [go_sem, Nat.reduceAdd, Nat.reduceLT, Nat.reduceMul, Nat.reduceLeDiff, Int.reduceToNat, Int.reduceLT, Int.reduceLE, Try.results52, results_data CT_gives52, resCell, resVal.eq_2, loadOp_sv, cF1, cF9]) ⟨rfl, on_nil hwf⟩))))))))
      · refine w_skip ?_
        refine (w_n ?_)
        obtain ⟨x, nF10, eF11, gF12, hr⟩ := hr.idx
        obtain ⟨nF13, hr⟩ := hr.room
        refine w_region rfl (by simp (disch := (apply Apart.mk; decide)) only [go_sem, Nat.reduceAdd, Nat.reduceLT, Nat.reduceMul, Nat.reduceLeDiff, Int.reduceToNat, Int.reduceLT, Int.reduceLE, nF10, eF11, gF12, nF13, cF1, cF9]; rfl) ?_
        refine (w_bn (w_n ?_))
        refine w_region rfl (by simp (disch := (apply Apart.mk; decide)) only [go_sem, Nat.reduceAdd, Nat.reduceLT, Nat.reduceMul, Nat.reduceLeDiff, Int.reduceToNat, Int.reduceLT, Int.reduceLE, cF1, cF9]; rfl) ?_
        exact (w_k ⟨((at_1 ++ ([x.To])), (IntKind.i64.wrap (v + (1 : Int)))), hr, (To.cut hwf (Nat.le_refl _) rfl (by simp (disch := (apply Apart.mk; decide)) only [go_sem, Nat.reduceAdd, Nat.reduceLT, Nat.reduceMul, Nat.reduceLeDiff, Int.reduceToNat, Int.reduceLT, Int.reduceLE, cF1, cF9]))⟩)
    · refine w_exit ?_
      exact (w_te (w_te (w_bx (w_k ⟨at_1, (hr).map, (To.cut hwf (Nat.le_refl _) rfl (by simp (disch := (apply Apart.mk; decide)) only [go_sem, Nat.reduceAdd, Nat.reduceLT, Nat.reduceMul, Nat.reduceLeDiff, Int.reduceToNat, Int.reduceLT, Int.reduceLE, cF1]))⟩))))
end Go.Val

/- part GW36 -/
/- scansion/dawg.Number runs as it is read off. -/
namespace Go.Val
set_option linter.unusedVariables false
set_option linter.unusedSimpArgs false
set_option maxRecDepth 20000
open Go.Proofs
theorem dawg_Number_runs (g : TGraph) (word : Str) {h : Heap} {a : (Int × Int)} (e : dawg_Number g word = some a) :
    Runs CT 36 [.cv (.val (.agg [.sl (List.map eB g.Final), .sl (List.map (eL eEdge) g.Edges)])), .cv (.val (.str (bs word)))] h fun o h' => o = [.cv (.val (.int .i64 a.1)), .cv (.val (.int .i64 a.2))] ∧ h' = h := by
  refine Runs.start Try.f36 _ Try.func36 rfl (by rw [Try.ntmps36]; simp) (by rfl) (by rfl) (fun hwf hu => ?_)
  obtain ⟨D, hD, hr⟩ : ∃ D : (Int × Int) → Prop, (∀ z, D z → z = a) ∧ Holds (dawg_Number g word) D := ⟨fun z => z = a, fun _ h => h, Holds.intro e rfl⟩
  dsimp only [dawg_Number] at hr
  change wpCode _ _ _ _ _ ⟨[(0, .cv (.val (.agg [.sl (List.map eB g.Final), .sl (List.map (eL eEdge) g.Edges)]))), (1, .cv (.val (.str (bs word))))], h.on []⟩
  refine w_seq ?_
  refine w_region rfl (by simp (disch := (apply Apart.mk; decide)) only [go_sem, Nat.reduceAdd, Nat.reduceLT, Nat.reduceMul, Nat.reduceLeDiff, Int.reduceToNat, Int.reduceLT, Int.reduceLE]; rfl) ?_
  refine (w_n ?_)
  refine w_seq ?_
  refine w_ops rfl ?_
  refine w_upto 1 rfl (by simp (disch := (apply Apart.mk; decide)) only [go_sem, Nat.reduceAdd, Nat.reduceLT, Nat.reduceMul, Nat.reduceLeDiff, Int.reduceToNat, Int.reduceLT, Int.reduceLE]; rfl) ?_
  obtain ⟨r, eF1, hr⟩ := hr.bind
  refine w_call' (out := ?o_eF1) (hp := ?p_eF1) rfl (by simp (disch := (apply Apart.mk; decide)) only [go_sem, Nat.reduceAdd, Nat.reduceLT, Nat.reduceMul, Nat.reduceLeDiff, Int.reduceToNat, Int.reduceLT, Int.reduceLE, Option.getD_some]; rfl) (by simp (disch := (apply Apart.mk; decide)) only [go_sem, Nat.reduceAdd, Nat.reduceLT, Nat.reduceMul, Nat.reduceLeDiff, Int.reduceToNat, Int.reduceLT, Int.reduceLE, Option.getD_some]; rfl) (by simp (disch := (apply Apart.mk; decide)) only [go_sem, Nat.reduceAdd, Nat.reduceLT, Nat.reduceMul, Nat.reduceLeDiff, Int.reduceToNat, Int.reduceLT, Int.reduceLE, Option.getD_some]; rfl) ?c_eF1 ?d_eF1 ?_
  case c_eF1 => exact dawg_Count_runs g eF1
  case d_eF1 => rfl
  refine w_ops_end (by simp (disch := (apply Apart.mk; decide)) only [go_sem, Nat.reduceAdd, Nat.reduceLT, Nat.reduceMul, Nat.reduceLeDiff, Int.reduceToNat, Int.reduceLT, Int.reduceLE]; rfl) ?_
  refine (w_n ?_)
  refine w_seq ?_
  refine w_seq ?_
  refine w_region rfl (by simp (disch := (apply Apart.mk; decide)) only [go_sem, Nat.reduceAdd, Nat.reduceLT, Nat.reduceMul, Nat.reduceLeDiff, Int.reduceToNat, Int.reduceLT, Int.reduceLE]; rfl) ?_
  refine (w_n ?_)
  refine w_condH (by simp (disch := (apply Apart.mk; decide)) only [go_sem, Nat.reduceAdd, Nat.reduceLT, Nat.reduceMul, Nat.reduceLeDiff, Int.reduceToNat, Int.reduceLT, Int.reduceLE]) hr (fun cF2 hr => ?_) (fun cF2 hr => ?_)
  · refine w_seq ?_
    refine w_region rfl (by simp (disch := (apply Apart.mk; decide)) only [go_sem, Nat.reduceAdd, Nat.reduceLT, Nat.reduceMul, Nat.reduceLeDiff, Int.reduceToNat, Int.reduceLT, Int.reduceLE, cF2]; rfl) ?_
    refine (w_n ?_)
    refine w_ret ?_
    obtain rfl := hD _ hr
    exact (w_tr (w_endR (To.cut (os' := []) (sl := [(4, .cv (.val (.int .i64 (0 : Int)))), (5, .cv (.val (.int .i64 r.2)))]) hwf (Nat.le_refl _) rfl (by simp (disch := (apply Apart.mk; decide)) only [go_sem, Nat.reduceAdd, Nat.reduceLT, Nat.reduceMul, Nat.reduceLeDiff, Int.reduceToNat, Int.reduceLT, Int.reduceLE, cF2])) (by simp (disch := (apply Apart.mk; decide)) only [go_sem, Nat.reduceAdd, Nat.reduceLT, Nat.reduceMul, Nat.reduceLeDiff, Int.reduceToNat, Int.reduceLT, Int.reduceLE, Try.results36, results_data CT_gives36, resCell, resVal.eq_2, loadOp_sv, cF2]) ⟨rfl, on_nil hwf⟩))
  · refine w_skip ?_
    refine (w_n ?_)
    refine w_seq ?_
    refine w_ops rfl ?_
    refine w_upto 2 rfl (by simp (disch := (apply Apart.mk; decide)) only [go_sem, Nat.reduceAdd, Nat.reduceLT, Nat.reduceMul, Nat.reduceLeDiff, Int.reduceToNat, Int.reduceLT, Int.reduceLE]; rfl) ?_
    obtain ⟨r1, eF3, hr⟩ := hr.bind
    refine w_call' (out := ?o_eF3) (hp := ?p_eF3) rfl (by simp (disch := (apply Apart.mk; decide)) only [go_sem, Nat.reduceAdd, Nat.reduceLT, Nat.reduceMul, Nat.reduceLeDiff, Int.reduceToNat, Int.reduceLT, Int.reduceLE, Option.getD_some]; rfl) (by simp (disch := (apply Apart.mk; decide)) only [go_sem, Nat.reduceAdd, Nat.reduceLT, Nat.reduceMul, Nat.reduceLeDiff, Int.reduceToNat, Int.reduceLT, Int.reduceLE, Option.getD_some]; rfl) (by simp (disch := (apply Apart.mk; decide)) only [go_sem, Nat.reduceAdd, Nat.reduceLT, Nat.reduceMul, Nat.reduceLeDiff, Int.reduceToNat, Int.reduceLT, Int.reduceLE, Option.getD_some]; rfl) ?c_eF3 ?d_eF3 ?_
    case c_eF3 => exact dawg_walk_runs g word eF3
    case d_eF3 => rfl
    refine w_ops_end (by simp (disch := (apply Apart.mk; decide)) only [go_sem, Nat.reduceAdd, Nat.reduceLT, Nat.reduceMul, Nat.reduceLeDiff, Int.reduceToNat, Int.reduceLT, Int.reduceLE]; rfl) ?_
    refine (w_n ?_)
    refine w_seq ?_
    obtain ⟨v, vF11, hr⟩ := hr.bind
    refine w_joinR (sj := ⟨[(1, .cv (.val (.str (bs word)))), (2, .cv (.val (.ptr (some (h.n + 0, 0))))), (6, .cv (.val (.sl (List.map eI r.1)))), (8, .cv (.val (.sl (List.map eI r1.1)))), (41, .cv (.val (.bool v)))], h.on [some (.cells [.val (.sl (List.map eB g.Final)), .val (.sl (List.map (eL eEdge) g.Edges))])]⟩) (w_drawn [0, 1, 2, 3, 4, 5, 6, 7, 8, 9, 10, 11, 12, 13] (by rfl) ?_) ?_
    · have hr := Holds.intro (D := fun z => z = v) vF11 rfl
      refine p_run (l := [0, 1, 2]) (pend' := [2, 1, 0]) (by simp (disch := (apply Apart.mk; decide)) only [go_sem, Nat.reduceAdd, Nat.reduceLT, Nat.reduceMul, Nat.reduceLeDiff, Int.reduceToNat, Int.reduceLT, Int.reduceLE]; rfl) rfl ?_
      rcases hr.ite with ⟨cF4, hr⟩ | ⟨cF4, hr⟩
      · refine p_run (l := [3, 4, 5, 6, 7, 8, 9, 10, 11, 12, 13]) (pend' := [13, 12, 11, 10, 9, 8, 7, 6, 5, 4, 3, 2, 1, 0]) (by simp (disch := (apply Apart.mk; decide)) only [go_sem, Nat.reduceAdd, Nat.reduceLT, Nat.reduceMul, Nat.reduceLeDiff, Int.reduceToNat, Int.reduceLT, Int.reduceLE, cF4]; rfl) rfl ?_
        refine p_end (by simp (disch := (apply Apart.mk; decide)) only [go_sem, Nat.reduceAdd, Nat.reduceLT, Nat.reduceMul, Nat.reduceLeDiff, Int.reduceToNat, Int.reduceLT, Int.reduceLE, cF4]) ?_
        obtain rfl : _ = v := hr
        exact w_k (To.cut hwf (Nat.le_refl _) rfl (by simp (disch := (apply Apart.mk; decide)) only [go_sem, Nat.reduceAdd, Nat.reduceLT, Nat.reduceMul, Nat.reduceLeDiff, Int.reduceToNat, Int.reduceLT, Int.reduceLE, cF2, cF4]))
      · obtain ⟨n, nF5, eF6, gF7, hr⟩ := hr.idx
        obtain ⟨b, nF8, eF9, gF10, hr⟩ := hr.idx
        refine p_run (l := [3, 4, 5, 6, 7, 8, 9, 10, 11, 12, 13]) (pend' := [13, 12, 11, 10, 9, 8, 7, 6, 5, 4, 3, 2, 1, 0]) (by simp (disch := (apply Apart.mk; decide)) only [go_sem, Nat.reduceAdd, Nat.reduceLT, Nat.reduceMul, Nat.reduceLeDiff, Int.reduceToNat, Int.reduceLT, Int.reduceLE, cF4, nF5, eF6, gF7, nF8, eF9, gF10]; rfl) rfl ?_
        refine p_end (by simp (disch := (apply Apart.mk; decide)) only [go_sem, Nat.reduceAdd, Nat.reduceLT, Nat.reduceMul, Nat.reduceLeDiff, Int.reduceToNat, Int.reduceLT, Int.reduceLE, cF4, nF5, eF6, gF7, nF8, eF9, gF10]) ?_
        obtain rfl : _ = v := hr
        exact w_k (To.cut hwf (Nat.le_refl _) rfl (by simp (disch := (apply Apart.mk; decide)) only [go_sem, Nat.reduceAdd, Nat.reduceLT, Nat.reduceMul, Nat.reduceLeDiff, Int.reduceToNat, Int.reduceLT, Int.reduceLE, cF2, cF4]))
    refine w_condH (by simp (disch := (apply Apart.mk; decide)) only [go_sem, Nat.reduceAdd, Nat.reduceLT, Nat.reduceMul, Nat.reduceLeDiff, Int.reduceToNat, Int.reduceLT, Int.reduceLE, cF2]) hr (fun cF12 hr => ?_) (fun cF12 hr => ?_)
    · refine w_seq ?_
      refine w_region rfl (by simp (disch := (apply Apart.mk; decide)) only [go_sem, Nat.reduceAdd, Nat.reduceLT, Nat.reduceMul, Nat.reduceLeDiff, Int.reduceToNat, Int.reduceLT, Int.reduceLE, cF2, cF12]; rfl) ?_
      refine (w_n ?_)
      refine w_ret ?_
      obtain rfl := hD _ hr
      exact (w_tr (w_endR (To.cut (os' := []) (sl := [(4, .cv (.val (.int .i64 (0 : Int)))), (5, .cv (.val (.int .i64 (4 : Int))))]) hwf (Nat.le_refl _) rfl (by simp (disch := (apply Apart.mk; decide)) only [go_sem, Nat.reduceAdd, Nat.reduceLT, Nat.reduceMul, Nat.reduceLeDiff, Int.reduceToNat, Int.reduceLT, Int.reduceLE, cF2, cF12])) (by simp (disch := (apply Apart.mk; decide)) only [go_sem, Nat.reduceAdd, Nat.reduceLT, Nat.reduceMul, Nat.reduceLeDiff, Int.reduceToNat, Int.reduceLT, Int.reduceLE, Try.results36, results_data CT_gives36, resCell, resVal.eq_2, loadOp_sv, cF2, cF12]) ⟨rfl, on_nil hwf⟩))
    · refine w_skip ?_
      refine (w_n ?_)
      refine w_seq ?_
      refine w_region rfl (by simp (disch := (apply Apart.mk; decide)) only [go_sem, Nat.reduceAdd, Nat.reduceLT, Nat.reduceMul, Nat.reduceLeDiff, Int.reduceToNat, Int.reduceLT, Int.reduceLE, cF2, cF12]; rfl) ?_
      refine (w_n ?_)
      refine w_seq ?_
      refine w_seq ?_
      refine w_region rfl (by simp (disch := (apply Apart.mk; decide)) only [go_sem, Nat.reduceAdd, Nat.reduceLT, Nat.reduceMul, Nat.reduceLeDiff, Int.reduceToNat, Int.reduceLT, Int.reduceLE, cF2, cF12]; rfl) ?_
      refine (w_n ?_)
      refine w_K (D := D) (fun xX : Int => ⟨[(10, .cv (.val (.int .i64 xX)))], h.on []⟩) (fun xX : Int => dawg_Number.k1 xX) (fun xX s' hr ht => ?_) ?_
      · obtain ⟨n1, rfl⟩ : ∃ z, z = xX := ⟨xX, rfl⟩
        dsimp only [dawg_Number.k1] at hr ht
        refine (w_nT ht ?_)
        refine w_seq ?_
        refine w_region rfl (by simp (disch := (apply Apart.mk; decide)) only [go_sem, Nat.reduceAdd, Nat.reduceLT, Nat.reduceMul, Nat.reduceLeDiff, Int.reduceToNat, Int.reduceLT, Int.reduceLE, cF2, cF12]; rfl) ?_
        refine (w_n ?_)
        refine w_ret ?_
        obtain rfl := hD _ hr
        exact (w_endR (To.cut (os' := []) (sl := [(4, .cv (.val (.int .i64 (mn n1 (1099511627776 : Int))))), (5, .cv (.val (.int .i64 (0 : Int))))]) hwf (Nat.le_refl _) rfl (by simp (disch := (apply Apart.mk; decide)) only [go_sem, Nat.reduceAdd, Nat.reduceLT, Nat.reduceMul, Nat.reduceLeDiff, Int.reduceToNat, Int.reduceLT, Int.reduceLE, cF2, cF12])) (by simp (disch := (apply Apart.mk; decide)) only [go_sem, Nat.reduceAdd, Nat.reduceLT, Nat.reduceMul, Nat.reduceLeDiff, Int.reduceToNat, Int.reduceLT, Int.reduceLE, Try.results36, results_data CT_gives36, resCell, resVal.eq_2, loadOp_sv, cF2, cF12]) ⟨rfl, on_nil hwf⟩)
      · refine w_block ?_
        refine w_Loop (fun xX : (Int × Int) => ⟨[(1, .cv (.val (.str (bs word)))), (2, .cv (.val (.ptr (some (h.n + 0, 0))))), (6, .cv (.val (.sl (List.map eI r.1)))), (8, .cv (.val (.sl (List.map eI r1.1)))), (10, .cv (.val (.int .i64 xX.1))), (43, .cv (.val (.int .i64 (word.length : Int)))), (44, .cv (.val (.int .i64 xX.2)))], h.on [some (.cells [.val (.sl (List.map eB g.Final)), .val (.sl (List.map (eL eEdge) g.Edges))])]⟩) hr (To.cut hwf (Nat.le_refl _) rfl (by simp (disch := (apply Apart.mk; decide)) only [go_sem, Nat.reduceAdd, Nat.reduceLT, Nat.reduceMul, Nat.reduceLeDiff, Int.reduceToNat, Int.reduceLT, Int.reduceLE, cF2, cF12])) (fun W1 xX hr => ?_)
        obtain ⟨n2, v1⟩ := xX
        dsimp only [dawg_Number.b1] at hr
        refine w_seq ?_
        refine w_region rfl (by simp (disch := (apply Apart.mk; decide)) only [go_sem, Nat.reduceAdd, Nat.reduceLT, Nat.reduceMul, Nat.reduceLeDiff, Int.reduceToNat, Int.reduceLT, Int.reduceLE, cF2, cF12]; rfl) ?_
        refine (w_n ?_)
        refine w_seq ?_
        refine w_condH (by simp (disch := (apply Apart.mk; decide)) only [go_sem, Nat.reduceAdd, Nat.reduceLT, Nat.reduceMul, Nat.reduceLeDiff, Int.reduceToNat, Int.reduceLT, Int.reduceLE, cF2, cF12]) hr (fun cF13 hr => ?_) (fun cF13 hr => ?_)
        · refine w_skip ?_
          refine (w_n ?_)
          refine w_seq ?_
          refine w_K (D := (Aft W1 D)) (fun xX : Int => ⟨[(1, .cv (.val (.str (bs word)))), (2, .cv (.val (.ptr (some (h.n + 0, 0))))), (6, .cv (.val (.sl (List.map eI r.1)))), (8, .cv (.val (.sl (List.map eI r1.1)))), (10, .cv (.val (.int .i64 xX))), (43, .cv (.val (.int .i64 (word.length : Int)))), (44, .cv (.val (.int .i64 v1)))], h.on [some (.cells [.val (.sl (List.map eB g.Final)), .val (.sl (List.map (eL eEdge) g.Edges))])]⟩) (fun xX : Int => dawg_Number.k2 v1 xX) (fun xX s' hr ht => ?_) ?_
          · obtain ⟨n3, rfl⟩ : ∃ z, z = xX := ⟨xX, rfl⟩
            dsimp only [dawg_Number.k2] at hr ht
            refine (w_nT ht ?_)
            refine w_region rfl (by simp (disch := (apply Apart.mk; decide)) only [go_sem, Nat.reduceAdd, Nat.reduceLT, Nat.reduceMul, Nat.reduceLeDiff, Int.reduceToNat, Int.reduceLT, Int.reduceLE, cF2, cF12, cF13]; rfl) ?_
            exact (w_k ⟨(n3, (IntKind.i64.wrap (v1 + (1 : Int)))), hr, (To.cut hwf (Nat.le_refl _) rfl (by simp (disch := (apply Apart.mk; decide)) only [go_sem, Nat.reduceAdd, Nat.reduceLT, Nat.reduceMul, Nat.reduceLeDiff, Int.reduceToNat, Int.reduceLT, Int.reduceLE, cF2, cF12, cF13]))⟩)
          · refine w_block ?_
            refine w_seq ?_
            refine w_region rfl (by simp (disch := (apply Apart.mk; decide)) only [go_sem, Nat.reduceAdd, Nat.reduceLT, Nat.reduceMul, Nat.reduceLeDiff, Int.reduceToNat, Int.reduceLT, Int.reduceLE, cF2, cF12, cF13]; rfl) ?_
            refine (w_n ?_)
            refine w_seq ?_
            refine w_seq ?_
            refine w_drawn [0, 1, 2, 3, 4, 5, 6, 7] (by rfl) ?_
            obtain ⟨n4, nF14, eF15, gF16, hr⟩ := hr.idx
            obtain ⟨b1, nF17, eF18, gF19, hr⟩ := hr.idx
            refine p_run (l := [0, 1, 2, 3, 4, 5, 6, 7]) (pend' := [7, 6, 5, 4, 3, 2, 1, 0]) (by simp (disch := (apply Apart.mk; decide)) only [go_sem, Nat.reduceAdd, Nat.reduceLT, Nat.reduceMul, Nat.reduceLeDiff, Int.reduceToNat, Int.reduceLT, Int.reduceLE, nF14, eF15, gF16, nF17, eF18, gF19]; rfl) rfl ?_
            refine p_end (by simp (disch := (apply Apart.mk; decide)) only [go_sem, Nat.reduceAdd, Nat.reduceLT, Nat.reduceMul, Nat.reduceLeDiff, Int.reduceToNat, Int.reduceLT, Int.reduceLE, nF14, eF15, gF16, nF17, eF18, gF19]) ?_
            refine (w_n ?_)
            refine w_K (D := (Aft W1 D)) (fun xX : Int => ⟨[(1, .cv (.val (.str (bs word)))), (2, .cv (.val (.ptr (some (h.n + 0, 0))))), (6, .cv (.val (.sl (List.map eI r.1)))), (8, .cv (.val (.sl (List.map eI r1.1)))), (10, .cv (.val (.int .i64 xX))), (11, .cv (.val (.int .i64 v1))), (43, .cv (.val (.int .i64 (word.length : Int)))), (44, .cv (.val (.int .i64 v1)))], h.on [some (.cells [.val (.sl (List.map eB g.Final)), .val (.sl (List.map (eL eEdge) g.Edges))])]⟩) (fun xX : Int => dawg_Number.k3 g word r v1 n4 xX) (fun xX s' hr ht => ?_) ?_
            · obtain ⟨n5, rfl⟩ : ∃ z, z = xX := ⟨xX, rfl⟩
              dsimp only [dawg_Number.k3] at hr ht
              refine (w_nT ht ?_)
              refine w_seq ?_
              refine w_drawn [0, 1, 2, 3, 4, 5, 6, 7, 8, 9] (by rfl) ?_
              obtain ⟨xs, nF20, eF21, gF22, hr⟩ := hr.idx
              refine p_run (l := [0, 1, 2, 3, 4, 5, 6, 7, 8, 9]) (pend' := [9, 8, 7, 6, 5, 4, 3, 2, 1, 0]) (by simp (disch := (apply Apart.mk; decide)) only [go_sem, Nat.reduceAdd, Nat.reduceLT, Nat.reduceMul, Nat.reduceLeDiff, Int.reduceToNat, Int.reduceLT, Int.reduceLE, nF14, eF15, gF16, nF20, eF21, gF22]; rfl) rfl ?_
              refine p_end (by simp (disch := (apply Apart.mk; decide)) only [go_sem, Nat.reduceAdd, Nat.reduceLT, Nat.reduceMul, Nat.reduceLeDiff, Int.reduceToNat, Int.reduceLT, Int.reduceLE, nF14, eF15, gF16, nF20, eF21, gF22]) ?_
              refine (w_n ?_)
              refine w_block ?_
              refine w_Loop (fun xX : (Int × Int) => ⟨[(1, .cv (.val (.str (bs word)))), (2, .cv (.val (.ptr (some (h.n + 0, 0))))), (6, .cv (.val (.sl (List.map eI r.1)))), (8, .cv (.val (.sl (List.map eI r1.1)))), (10, .cv (.val (.int .i64 xX.1))), (11, .cv (.val (.int .i64 v1))), (43, .cv (.val (.int .i64 (word.length : Int)))), (44, .cv (.val (.int .i64 v1))), (64, .cv (.val (.sl (List.map eEdge xs)))), (65, .cv (.val (.int .i64 (xs.length : Int)))), (66, .cv (.val (.int .i64 xX.2)))], h.on [some (.cells [.val (.sl (List.map eB g.Final)), .val (.sl (List.map (eL eEdge) g.Edges))])]⟩) hr (To.cut hwf (Nat.le_refl _) rfl (by simp (disch := (apply Apart.mk; decide)) only [go_sem, Nat.reduceAdd, Nat.reduceLT, Nat.reduceMul, Nat.reduceLeDiff, Int.reduceToNat, Int.reduceLT, Int.reduceLE, cF2, cF12, cF13])) (fun W2 xX hr => ?_)
              obtain ⟨n6, v2⟩ := xX
              dsimp only [dawg_Number.b2] at hr
              refine w_seq ?_
              refine w_region rfl (by simp (disch := (apply Apart.mk; decide)) only [go_sem, Nat.reduceAdd, Nat.reduceLT, Nat.reduceMul, Nat.reduceLeDiff, Int.reduceToNat, Int.reduceLT, Int.reduceLE, cF2, cF12, cF13]; rfl) ?_
              refine (w_n ?_)
              refine w_seq ?_
              refine w_condH (by simp (disch := (apply Apart.mk; decide)) only [go_sem, Nat.reduceAdd, Nat.reduceLT, Nat.reduceMul, Nat.reduceLeDiff, Int.reduceToNat, Int.reduceLT, Int.reduceLE, cF2, cF12, cF13]) hr (fun cF23 hr => ?_) (fun cF23 hr => ?_)
              · refine w_skip ?_
                refine (w_n ?_)
                refine w_seq ?_
                refine w_K (D := (Aft W2 (Aft W1 D))) (fun xX : Int => ⟨[(1, .cv (.val (.str (bs word)))), (2, .cv (.val (.ptr (some (h.n + 0, 0))))), (6, .cv (.val (.sl (List.map eI r.1)))), (8, .cv (.val (.sl (List.map eI r1.1)))), (10, .cv (.val (.int .i64 xX))), (11, .cv (.val (.int .i64 v1))), (43, .cv (.val (.int .i64 (word.length : Int)))), (44, .cv (.val (.int .i64 v1))), (64, .cv (.val (.sl (List.map eEdge xs)))), (65, .cv (.val (.int .i64 (xs.length : Int)))), (66, .cv (.val (.int .i64 v2)))], h.on [some (.cells [.val (.sl (List.map eB g.Final)), .val (.sl (List.map (eL eEdge) g.Edges))])]⟩) (fun xX : Int => dawg_Number.k4 v2 xX) (fun xX s' hr ht => ?_) ?_
                · obtain ⟨n7, rfl⟩ : ∃ z, z = xX := ⟨xX, rfl⟩
                  dsimp only [dawg_Number.k4] at hr ht
                  refine (w_nT ht ?_)
                  refine w_region rfl (by simp (disch := (apply Apart.mk; decide)) only [go_sem, Nat.reduceAdd, Nat.reduceLT, Nat.reduceMul, Nat.reduceLeDiff, Int.reduceToNat, Int.reduceLT, Int.reduceLE, cF2, cF12, cF13, cF23]; rfl) ?_
                  exact (w_k ⟨(n7, (IntKind.i64.wrap (v2 + (1 : Int)))), hr, (To.cut hwf (Nat.le_refl _) rfl (by simp (disch := (apply Apart.mk; decide)) only [go_sem, Nat.reduceAdd, Nat.reduceLT, Nat.reduceMul, Nat.reduceLeDiff, Int.reduceToNat, Int.reduceLT, Int.reduceLE, cF2, cF12, cF13, cF23]))⟩)
                · refine w_block ?_
                  refine w_seq ?_
                  obtain ⟨x, nF24, eF25, gF26, hr⟩ := hr.idx
                  refine w_region rfl (by simp (disch := (apply Apart.mk; decide)) only [go_sem, Nat.reduceAdd, Nat.reduceLT, Nat.reduceMul, Nat.reduceLeDiff, Int.reduceToNat, Int.reduceLT, Int.reduceLE, nF24, eF25, gF26, cF2, cF12, cF13, cF23]; rfl) ?_
                  refine (w_n ?_)
                  refine w_seq ?_
                  refine w_drawn [0, 1, 2, 3, 4, 5] (by rfl) ?_
                  obtain ⟨c, nF27, eF28, gF29, hr⟩ := hr.idx
                  refine p_run (l := [0, 1, 2, 3, 4, 5]) (pend' := [5, 4, 3, 2, 1, 0]) (by simp (disch := (apply Apart.mk; decide)) only [go_sem, Nat.reduceAdd, Nat.reduceLT, Nat.reduceMul, Nat.reduceLeDiff, Int.reduceToNat, Int.reduceLT, Int.reduceLE, nF27, eF28, gF29]; rfl) rfl ?_
                  refine p_end (by simp (disch := (apply Apart.mk; decide)) only [go_sem, Nat.reduceAdd, Nat.reduceLT, Nat.reduceMul, Nat.reduceLeDiff, Int.reduceToNat, Int.reduceLT, Int.reduceLE, nF27, eF28, gF29]) ?_
                  refine (w_n ?_)
                  refine w_condH (by simp (disch := (apply Apart.mk; decide)) only [go_sem, Nat.reduceAdd, Nat.reduceLT, Nat.reduceMul, Nat.reduceLeDiff, Int.reduceToNat, Int.reduceLT, Int.reduceLE, cF2, cF12, cF13, cF23]) hr (fun cF30 hr => ?_) (fun cF30 hr => ?_)
                  · obtain ⟨n8, nF31, eF32, gF33, hr⟩ := hr.idx
                    refine w_region rfl (by simp (disch := (apply Apart.mk; decide)) only [go_sem, Nat.reduceAdd, Nat.reduceLT, Nat.reduceMul, Nat.reduceLeDiff, Int.reduceToNat, Int.reduceLT, Int.reduceLE, nF31, eF32, gF33, cF2, cF12, cF13, cF23, cF30]; rfl) ?_
                    exact (w_bn (w_k ⟨(IntKind.i64.wrap (n6 + n8)), hr, (To.cut hwf (Nat.le_refl _) rfl (by simp (disch := (apply Apart.mk; decide)) only [go_sem, Nat.reduceAdd, Nat.reduceLT, Nat.reduceMul, Nat.reduceLeDiff, Int.reduceToNat, Int.reduceLT, Int.reduceLE, cF2, cF12, cF13, cF23, cF30]))⟩))
                  · refine w_skip ?_
                    exact (w_bn (w_k ⟨n6, hr, (To.cut hwf (Nat.le_refl _) rfl (by simp (disch := (apply Apart.mk; decide)) only [go_sem, Nat.reduceAdd, Nat.reduceLT, Nat.reduceMul, Nat.reduceLeDiff, Int.reduceToNat, Int.reduceLT, Int.reduceLE, cF2, cF12, cF13, cF23, cF30]))⟩))
              · refine w_exit ?_
                exact (w_te (w_te (w_bx (w_bn (w_k ⟨n6, (hr).map, (To.cut hwf (Nat.le_refl _) rfl (by simp (disch := (apply Apart.mk; decide)) only [go_sem, Nat.reduceAdd, Nat.reduceLT, Nat.reduceMul, Nat.reduceLeDiff, Int.reduceToNat, Int.reduceLT, Int.reduceLE, cF2, cF12, cF13, cF23]))⟩)))))
            · refine w_condH (by simp (disch := (apply Apart.mk; decide)) only [go_sem, Nat.reduceAdd, Nat.reduceLT, Nat.reduceMul, Nat.reduceLeDiff, Int.reduceToNat, Int.reduceLT, Int.reduceLE, cF2, cF12, cF13]) hr (fun cF34 hr => ?_) (fun cF34 hr => ?_)
              · refine w_region rfl (by simp (disch := (apply Apart.mk; decide)) only [go_sem, Nat.reduceAdd, Nat.reduceLT, Nat.reduceMul, Nat.reduceLeDiff, Int.reduceToNat, Int.reduceLT, Int.reduceLE, cF2, cF12, cF13, cF34]; rfl) ?_
                exact (w_k ⟨(IntKind.i64.wrap (n2 + (1 : Int))), hr, (To.cut hwf (Nat.le_refl _) rfl (by simp (disch := (apply Apart.mk; decide)) only [go_sem, Nat.reduceAdd, Nat.reduceLT, Nat.reduceMul, Nat.reduceLeDiff, Int.reduceToNat, Int.reduceLT, Int.reduceLE, cF2, cF12, cF13, cF34]))⟩)
              · refine w_skip ?_
                exact (w_k ⟨n2, hr, (To.cut hwf (Nat.le_refl _) rfl (by simp (disch := (apply Apart.mk; decide)) only [go_sem, Nat.reduceAdd, Nat.reduceLT, Nat.reduceMul, Nat.reduceLeDiff, Int.reduceToNat, Int.reduceLT, Int.reduceLE, cF2, cF12, cF13, cF34]))⟩)
        · refine w_exit ?_
          exact (w_te (w_te (w_bx (w_k ⟨n2, (hr).map, (To.cut hwf (Nat.le_refl _) rfl (by simp (disch := (apply Apart.mk; decide)) only [go_sem, Nat.reduceAdd, Nat.reduceLT, Nat.reduceMul, Nat.reduceLeDiff, Int.reduceToNat, Int.reduceLT, Int.reduceLE, cF2, cF12, cF13]))⟩))))
end Go.Val

/- part GW32 -/
/- (*scansion/darray.Array).Number runs as it is read off. -/
namespace Go.Val
set_option linter.unusedVariables false
set_option linter.unusedSimpArgs false
set_option maxRecDepth 20000
open Go.Proofs
theorem darray_Array_Number_runs (a_ : Tdarray_Array) (word : List UInt8) (l0 : Nat) {h : Heap} (ha0 : h.at_ l0 = some (.cells [.val (.sl (List.map eB a_.graph.Final)), .val (.sl (List.map (eL eEdge) a_.graph.Edges)), .row 3 (List.map eI a_.base), .row 91 (List.map edarray_cell a_.cells), .val (.sl (List.map eI a_.count))])) {a : (Int × Bool)} (e : darray_Array_Number a_ word = some a) :
    Runs CT 32 [.cv (.val (.ptr (some (l0, 0)))), .cv (.val (.sl (List.map eU word)))] h fun o h' => o = [.cv (.val (.int .i64 a.1)), .cv (.val (.bool a.2))] ∧ h' = h := by
  refine Runs.start Try.f32 _ Try.func32 rfl (by rw [Try.ntmps32]; simp) (by rfl) (by rfl) (fun hwf hu => ?_)
  have hl0 := (hwf _ _ ha0).1
  obtain ⟨D, hD, hr⟩ : ∃ D : (Int × Bool) → Prop, (∀ z, D z → z = a) ∧ Holds (darray_Array_Number a_ word) D := ⟨fun z => z = a, fun _ h => h, Holds.intro e rfl⟩
  dsimp only [darray_Array_Number] at hr
  change wpCode _ _ _ _ _ ⟨[(0, .cv (.val (.ptr (some (l0, 0))))), (1, .cv (.val (.sl (List.map eU word))))], h.on []⟩
  refine w_seq ?_
  refine w_region rfl (by simp (disch := (apply Apart.mk; decide)) only [go_sem, Nat.reduceAdd, Nat.reduceLT, Nat.reduceMul, Nat.reduceLeDiff, Int.reduceToNat, Int.reduceLT, Int.reduceLE, ha0, on_atB hl0, lt_add hl0, lt_at hl0]; rfl) ?_
  refine (w_n ?_)
  refine w_seq ?_
  refine w_drawn [0, 1, 2, 3, 4, 5, 6, 7, 8, 9, 10, 11] (by rfl) ?_
  refine p_run (l := [0, 1, 2, 3, 4, 5]) (pend' := [5, 4, 3, 2, 1, 0]) (by simp (disch := (apply Apart.mk; decide)) only [go_sem, Nat.reduceAdd, Nat.reduceLT, Nat.reduceMul, Nat.reduceLeDiff, Int.reduceToNat, Int.reduceLT, Int.reduceLE, ha0, on_atB hl0, lt_add hl0, lt_at hl0]; rfl) rfl ?_
  obtain ⟨r, eF1, hr⟩ := hr.bind
  refine p_call (out := ?o_eF1) (hp := ?p_eF1) (pend' := []) rfl (by simp (disch := (apply Apart.mk; decide)) only [go_sem, Nat.reduceAdd, Nat.reduceLT, Nat.reduceMul, Nat.reduceLeDiff, Int.reduceToNat, Int.reduceLT, Int.reduceLE, ha0, on_atB hl0, lt_add hl0, lt_at hl0, Option.getD_some]) rfl (by simp (disch := (apply Apart.mk; decide)) only [go_sem, Nat.reduceAdd, Nat.reduceLT, Nat.reduceMul, Nat.reduceLeDiff, Int.reduceToNat, Int.reduceLT, Int.reduceLE, ha0, on_atB hl0, lt_add hl0, lt_at hl0, Option.getD_some]; rfl) (by simp (disch := (apply Apart.mk; decide)) only [go_sem, Nat.reduceAdd, Nat.reduceLT, Nat.reduceMul, Nat.reduceLeDiff, Int.reduceToNat, Int.reduceLT, Int.reduceLE, ha0, on_atB hl0, lt_add hl0, lt_at hl0, Option.getD_some]; rfl) (by simp (disch := (apply Apart.mk; decide)) only [go_sem, Nat.reduceAdd, Nat.reduceLT, Nat.reduceMul, Nat.reduceLeDiff, Int.reduceToNat, Int.reduceLT, Int.reduceLE, ha0, on_atB hl0, lt_add hl0, lt_at hl0, Option.getD_some]; rfl) (by rfl) ?c_eF1 ?d_eF1 ?_
  case c_eF1 => exact dawg_Number_runs a_.graph word eF1
  case d_eF1 => rfl
  refine p_run (l := [7, 8, 9]) (pend' := [9, 8, 7]) (by simp (disch := (apply Apart.mk; decide)) only [go_sem, Nat.reduceAdd, Nat.reduceLT, Nat.reduceMul, Nat.reduceLeDiff, Int.reduceToNat, Int.reduceLT, Int.reduceLE, ha0, on_atB hl0, lt_add hl0, lt_at hl0]; rfl) rfl ?_
  refine p_op (pend' := [9]) rfl (by simp (disch := (apply Apart.mk; decide)) only [go_sem, Nat.reduceAdd, Nat.reduceLT, Nat.reduceMul, Nat.reduceLeDiff, Int.reduceToNat, Int.reduceLT, Int.reduceLE, ha0, on_atB hl0, lt_add hl0, lt_at hl0]) (by simp (disch := (apply Apart.mk; decide)) only [go_sem, Nat.reduceAdd, Nat.reduceLT, Nat.reduceMul, Nat.reduceLeDiff, Int.reduceToNat, Int.reduceLT, Int.reduceLE, ha0, on_atB hl0, lt_add hl0, lt_at hl0]; rfl) (by rfl) ?_
  refine p_op (pend' := []) rfl (by simp (disch := (apply Apart.mk; decide)) only [go_sem, Nat.reduceAdd, Nat.reduceLT, Nat.reduceMul, Nat.reduceLeDiff, Int.reduceToNat, Int.reduceLT, Int.reduceLE, ha0, on_atB hl0, lt_add hl0, lt_at hl0]) (by simp (disch := (apply Apart.mk; decide)) only [go_sem, Nat.reduceAdd, Nat.reduceLT, Nat.reduceMul, Nat.reduceLeDiff, Int.reduceToNat, Int.reduceLT, Int.reduceLE, ha0, on_atB hl0, lt_add hl0, lt_at hl0]; rfl) (by rfl) ?_
  refine p_end (by simp (disch := (apply Apart.mk; decide)) only [go_sem, Nat.reduceAdd, Nat.reduceLT, Nat.reduceMul, Nat.reduceLeDiff, Int.reduceToNat, Int.reduceLT, Int.reduceLE, ha0, on_atB hl0, lt_add hl0, lt_at hl0]) ?_
  refine (w_n ?_)
  refine w_seq ?_
  refine w_region rfl (by simp (disch := (apply Apart.mk; decide)) only [go_sem, Nat.reduceAdd, Nat.reduceLT, Nat.reduceMul, Nat.reduceLeDiff, Int.reduceToNat, Int.reduceLT, Int.reduceLE, ha0, on_atB hl0, lt_add hl0, lt_at hl0]; rfl) ?_
  refine (w_n ?_)
  refine w_ret ?_
  obtain rfl := hD _ hr
  exact (w_endR (To.cut (os' := []) (sl := [(4, .cv (.val (.int .i64 r.1))), (5, .cv (.val (.bool (r.2 == (0 : Int)))))]) hwf (Nat.le_refl _) (by first | rfl | (simp (disch := (apply Apart.mk; decide)) only [go_sem, Nat.reduceAdd, Nat.reduceLT, Nat.reduceMul, Nat.reduceLeDiff, Int.reduceToNat, Int.reduceLT, Int.reduceLE, ha0, on_atB hl0, lt_add hl0, lt_at hl0]; rfl)) (by simp (disch := (apply Apart.mk; decide)) only [go_sem, Nat.reduceAdd, Nat.reduceLT, Nat.reduceMul, Nat.reduceLeDiff, Int.reduceToNat, Int.reduceLT, Int.reduceLE, ha0, on_atB hl0, lt_add hl0, lt_at hl0])) (by simp (disch := (apply Apart.mk; decide)) only [go_sem, Nat.reduceAdd, Nat.reduceLT, Nat.reduceMul, Nat.reduceLeDiff, Int.reduceToNat, Int.reduceLT, Int.reduceLE, ha0, on_atB hl0, lt_add hl0, lt_at hl0, Try.results32, results_data CT_gives32, resCell, resVal.eq_2, loadOp_sv]) ⟨rfl, on_nil hwf⟩)
end Go.Val

/- part GW54 -/
/- (*scansion/darray.Array).has runs as it is read off. -/
namespace Go.Val
set_option linter.unusedVariables false
set_option linter.unusedSimpArgs false
set_option maxRecDepth 20000
open Go.Proofs
theorem darray_Array_has_runs (a_ : Tdarray_Array) (s : Int) (l0 : Nat) {h : Heap} (ha0 : h.at_ l0 = some (.cells [.val (.sl (List.map eB a_.graph.Final)), .val (.sl (List.map (eL eEdge) a_.graph.Edges)), .row 3 (List.map eI a_.base), .row 91 (List.map edarray_cell a_.cells), .val (.sl (List.map eI a_.count))])) {a : Bool} (e : darray_Array_has a_ s = some a) :
    Runs CT 54 [.cv (.val (.ptr (some (l0, 0)))), .cv (.val (.int .i64 s))] h fun o h' => o = [.cv (.val (.bool a))] ∧ h' = h := by
  refine Runs.start Try.f54 _ Try.func54 rfl (by rw [Try.ntmps54]; simp) (by rfl) (by rfl) (fun hwf hu => ?_)
  have hl0 := (hwf _ _ ha0).1
  obtain ⟨D, hD, hr⟩ : ∃ D : Bool → Prop, (∀ z, D z → z = a) ∧ Holds (darray_Array_has a_ s) D := ⟨fun z => z = a, fun _ h => h, Holds.intro e rfl⟩
  dsimp only [darray_Array_has] at hr
  change wpCode _ _ _ _ _ ⟨[(0, .cv (.val (.ptr (some (l0, 0))))), (1, .cv (.val (.int .i64 s)))], h.on []⟩
  refine w_seq ?_
  refine w_region rfl (by simp (disch := (apply Apart.mk; decide)) only [go_sem, Nat.reduceAdd, Nat.reduceLT, Nat.reduceMul, Nat.reduceLeDiff, Int.reduceToNat, Int.reduceLT, Int.reduceLE, ha0, on_atB hl0, lt_add hl0, lt_at hl0]; rfl) ?_
  refine (w_n ?_)
  refine w_joinR (sj := ⟨[(4, .cv (.val (.bool ((decide (s ≥ (0 : Int))) && (decide (s < (a_.base.length : Int)))))))], h.on []⟩) (w_ops rfl ?_) ?_
  · refine w_upto 3 rfl (by simp (disch := (apply Apart.mk; decide)) only [go_sem, Nat.reduceAdd, Nat.reduceLT, Nat.reduceMul, Nat.reduceLeDiff, Int.reduceToNat, Int.reduceLT, Int.reduceLE, ha0, on_atB hl0, lt_add hl0, lt_at hl0]; rfl) ?_
    rcases Bool.eq_false_or_eq_true (decide (s ≥ (0 : Int))) with cF1 | cF1
    · refine w_ops_end (by simp (disch := (apply Apart.mk; decide)) only [go_sem, Nat.reduceAdd, Nat.reduceLT, Nat.reduceMul, Nat.reduceLeDiff, Int.reduceToNat, Int.reduceLT, Int.reduceLE, ha0, on_atB hl0, lt_add hl0, lt_at hl0, cF1]; rfl) ?_
      exact w_k (To.cut hwf (Nat.le_refl _) (by first | rfl | (simp (disch := (apply Apart.mk; decide)) only [go_sem, Nat.reduceAdd, Nat.reduceLT, Nat.reduceMul, Nat.reduceLeDiff, Int.reduceToNat, Int.reduceLT, Int.reduceLE, ha0, on_atB hl0, lt_add hl0, lt_at hl0, cF1]; rfl)) (by simp (disch := (apply Apart.mk; decide)) only [go_sem, Nat.reduceAdd, Nat.reduceLT, Nat.reduceMul, Nat.reduceLeDiff, Int.reduceToNat, Int.reduceLT, Int.reduceLE, ha0, on_atB hl0, lt_add hl0, lt_at hl0, cF1]))
    · refine w_ops_end (by simp (disch := (apply Apart.mk; decide)) only [go_sem, Nat.reduceAdd, Nat.reduceLT, Nat.reduceMul, Nat.reduceLeDiff, Int.reduceToNat, Int.reduceLT, Int.reduceLE, ha0, on_atB hl0, lt_add hl0, lt_at hl0, cF1]; rfl) ?_
      exact w_k (To.cut hwf (Nat.le_refl _) (by first | rfl | (simp (disch := (apply Apart.mk; decide)) only [go_sem, Nat.reduceAdd, Nat.reduceLT, Nat.reduceMul, Nat.reduceLeDiff, Int.reduceToNat, Int.reduceLT, Int.reduceLE, ha0, on_atB hl0, lt_add hl0, lt_at hl0, cF1]; rfl)) (by simp (disch := (apply Apart.mk; decide)) only [go_sem, Nat.reduceAdd, Nat.reduceLT, Nat.reduceMul, Nat.reduceLeDiff, Int.reduceToNat, Int.reduceLT, Int.reduceLE, ha0, on_atB hl0, lt_add hl0, lt_at hl0, cF1]))
  refine w_ret ?_
  obtain rfl := hD _ hr
  exact (w_endR (To.cut (os' := []) (sl := [(4, .cv (.val (.bool ((decide (s ≥ (0 : Int))) && (decide (s < (a_.base.length : Int)))))))]) hwf (Nat.le_refl _) (by first | rfl | (simp (disch := (apply Apart.mk; decide)) only [go_sem, Nat.reduceAdd, Nat.reduceLT, Nat.reduceMul, Nat.reduceLeDiff, Int.reduceToNat, Int.reduceLT, Int.reduceLE, ha0, on_atB hl0, lt_add hl0, lt_at hl0]; rfl)) (by simp (disch := (apply Apart.mk; decide)) only [go_sem, Nat.reduceAdd, Nat.reduceLT, Nat.reduceMul, Nat.reduceLeDiff, Int.reduceToNat, Int.reduceLT, Int.reduceLE, ha0, on_atB hl0, lt_add hl0, lt_at hl0])) (by simp (disch := (apply Apart.mk; decide)) only [go_sem, Nat.reduceAdd, Nat.reduceLT, Nat.reduceMul, Nat.reduceLeDiff, Int.reduceToNat, Int.reduceLT, Int.reduceLE, ha0, on_atB hl0, lt_add hl0, lt_at hl0, Try.results54, results_data CT_gives54, resCell, resVal.eq_2, loadOp_sv]) ⟨rfl, on_nil hwf⟩)
end Go.Val

/- part GW24 -/
/- (*scansion/darray.Array).Step runs as it is read off. -/
namespace Go.Val
set_option linter.unusedVariables false
set_option linter.unusedSimpArgs false
set_option maxRecDepth 20000
open Go.Proofs
theorem darray_Array_Step_runs (a_ : Tdarray_Array) (s : Int) (b : UInt8) (l0 : Nat) {h : Heap} (ha0 : h.at_ l0 = some (.cells [.val (.sl (List.map eB a_.graph.Final)), .val (.sl (List.map (eL eEdge) a_.graph.Edges)), .row 3 (List.map eI a_.base), .row 91 (List.map edarray_cell a_.cells), .val (.sl (List.map eI a_.count))])) {a : (Int × Bool)} (e : darray_Array_Step a_ s b = some a) :
    Runs CT 24 [.cv (.val (.ptr (some (l0, 0)))), .cv (.val (.int .i64 s)), .cv (.val (.int .u8 (b.toNat : Int)))] h fun o h' => o = [.cv (.val (.int .i64 a.1)), .cv (.val (.bool a.2))] ∧ h' = h := by
  refine Runs.start Try.f24 _ Try.func24 rfl (by rw [Try.ntmps24]; simp) (by rfl) (by rfl) (fun hwf hu => ?_)
  have hl0 := (hwf _ _ ha0).1
  obtain ⟨D, hD, hr⟩ : ∃ D : (Int × Bool) → Prop, (∀ z, D z → z = a) ∧ Holds (darray_Array_Step a_ s b) D := ⟨fun z => z = a, fun _ h => h, Holds.intro e rfl⟩
  dsimp only [darray_Array_Step] at hr
  change wpCode _ _ _ _ _ ⟨[(0, .cv (.val (.ptr (some (l0, 0))))), (1, .cv (.val (.int .i64 s))), (2, .cv (.val (.int .u8 (b.toNat : Int))))], h.on []⟩
  refine w_seq ?_
  refine w_region rfl (by simp (disch := (apply Apart.mk; decide)) only [go_sem, Nat.reduceAdd, Nat.reduceLT, Nat.reduceMul, Nat.reduceLeDiff, Int.reduceToNat, Int.reduceLT, Int.reduceLE, ha0, on_atB hl0, lt_add hl0, lt_at hl0]; rfl) ?_
  refine (w_n ?_)
  refine w_seq ?_
  refine w_seq ?_
  refine w_ops rfl ?_
  refine w_upto 2 rfl (by simp (disch := (apply Apart.mk; decide)) only [go_sem, Nat.reduceAdd, Nat.reduceLT, Nat.reduceMul, Nat.reduceLeDiff, Int.reduceToNat, Int.reduceLT, Int.reduceLE, ha0, on_atB hl0, lt_add hl0, lt_at hl0]; rfl) ?_
  obtain ⟨r, eF1, hr⟩ := hr.bind
  refine w_call' (out := ?o_eF1) (hp := ?p_eF1) rfl (by simp (disch := (apply Apart.mk; decide)) only [go_sem, Nat.reduceAdd, Nat.reduceLT, Nat.reduceMul, Nat.reduceLeDiff, Int.reduceToNat, Int.reduceLT, Int.reduceLE, ha0, on_atB hl0, lt_add hl0, lt_at hl0, Option.getD_some]; rfl) (by simp (disch := (apply Apart.mk; decide)) only [go_sem, Nat.reduceAdd, Nat.reduceLT, Nat.reduceMul, Nat.reduceLeDiff, Int.reduceToNat, Int.reduceLT, Int.reduceLE, ha0, on_atB hl0, lt_add hl0, lt_at hl0, Option.getD_some]; rfl) (by simp (disch := (apply Apart.mk; decide)) only [go_sem, Nat.reduceAdd, Nat.reduceLT, Nat.reduceMul, Nat.reduceLeDiff, Int.reduceToNat, Int.reduceLT, Int.reduceLE, ha0, on_atB hl0, lt_add hl0, lt_at hl0, Option.getD_some]; rfl) ?c_eF1 ?d_eF1 ?_
  case c_eF1 => (refine darray_Array_has_runs a_ s (l0) ?_ eF1; (simp (disch := (apply Apart.mk; decide)) only [go_sem, Nat.reduceAdd, Nat.reduceLT, Nat.reduceMul, Nat.reduceLeDiff, Int.reduceToNat, Int.reduceLT, Int.reduceLE, ha0, on_atB hl0, lt_add hl0, lt_at hl0]))
  case d_eF1 => rfl
  refine w_ops_end (by simp (disch := (apply Apart.mk; decide)) only [go_sem, Nat.reduceAdd, Nat.reduceLT, Nat.reduceMul, Nat.reduceLeDiff, Int.reduceToNat, Int.reduceLT, Int.reduceLE, ha0, on_atB hl0, lt_add hl0, lt_at hl0]; rfl) ?_
  refine (w_n ?_)
  refine w_condH (by simp (disch := (apply Apart.mk; decide)) only [go_sem, Nat.reduceAdd, Nat.reduceLT, Nat.reduceMul, Nat.reduceLeDiff, Int.reduceToNat, Int.reduceLT, Int.reduceLE, ha0, on_atB hl0, lt_add hl0, lt_at hl0]) hr (fun cF2 hr => ?_) (fun cF2 hr => ?_)
  · refine w_seq ?_
    refine w_region rfl (by simp (disch := (apply Apart.mk; decide)) only [go_sem, Nat.reduceAdd, Nat.reduceLT, Nat.reduceMul, Nat.reduceLeDiff, Int.reduceToNat, Int.reduceLT, Int.reduceLE, ha0, on_atB hl0, lt_add hl0, lt_at hl0, cF2]; rfl) ?_
    refine (w_n ?_)
    refine w_ret ?_
    obtain rfl := hD _ hr
    exact (w_tr (w_endR (To.cut (os' := []) (sl := [(6, .cv (.val (.int .i64 (0 : Int)))), (7, .cv (.val (.bool false)))]) hwf (Nat.le_refl _) (by first | rfl | (simp (disch := (apply Apart.mk; decide)) only [go_sem, Nat.reduceAdd, Nat.reduceLT, Nat.reduceMul, Nat.reduceLeDiff, Int.reduceToNat, Int.reduceLT, Int.reduceLE, ha0, on_atB hl0, lt_add hl0, lt_at hl0, cF2]; rfl)) (by simp (disch := (apply Apart.mk; decide)) only [go_sem, Nat.reduceAdd, Nat.reduceLT, Nat.reduceMul, Nat.reduceLeDiff, Int.reduceToNat, Int.reduceLT, Int.reduceLE, ha0, on_atB hl0, lt_add hl0, lt_at hl0, cF2])) (by simp (disch := (apply Apart.mk; decide)) only [go_sem, Nat.reduceAdd, Nat.reduceLT, Nat.reduceMul, Nat.reduceLeDiff, Int.reduceToNat, Int.reduceLT, Int.reduceLE, ha0, on_atB hl0, lt_add hl0, lt_at hl0, Try.results24, results_data CT_gives24, resCell, resVal.eq_2, loadOp_sv, cF2]) ⟨rfl, on_nil hwf⟩))
  · refine w_skip ?_
    refine (w_n ?_)
    refine w_seq ?_
    obtain ⟨n, nF3, eF4, gF5, hr⟩ := hr.idx
    refine w_region rfl (by simp (disch := (apply Apart.mk; decide)) only [go_sem, Nat.reduceAdd, Nat.reduceLT, Nat.reduceMul, Nat.reduceLeDiff, Int.reduceToNat, Int.reduceLT, Int.reduceLE, ha0, on_atB hl0, lt_add hl0, lt_at hl0, nF3, eF4, gF5, cF2]; rfl) ?_
    refine (w_n ?_)
    refine w_seq ?_
    obtain ⟨v, vF10, hr⟩ := hr.bind
    refine w_joinR (sj := ⟨[(0, .cv (.val (.ptr (some (l0, 0))))), (8, .cv (.val (.int .i64 (IntKind.i64.wrap (n + (IntKind.i64.wrap (b.toNat : Int))))))), (42, .cv (.val (.bool v)))], h.on []⟩) (w_ops rfl ?_) ?_
    · have hr := Holds.intro (D := fun z => z = v) vF10 rfl
      refine w_upto 8 rfl (by simp (disch := (apply Apart.mk; decide)) only [go_sem, Nat.reduceAdd, Nat.reduceLT, Nat.reduceMul, Nat.reduceLeDiff, Int.reduceToNat, Int.reduceLT, Int.reduceLE, ha0, on_atB hl0, lt_add hl0, lt_at hl0]; rfl) ?_
      rcases hr.ite with ⟨cF6, hr⟩ | ⟨cF6, hr⟩
      · refine w_ops_end (by simp (disch := (apply Apart.mk; decide)) only [go_sem, Nat.reduceAdd, Nat.reduceLT, Nat.reduceMul, Nat.reduceLeDiff, Int.reduceToNat, Int.reduceLT, Int.reduceLE, ha0, on_atB hl0, lt_add hl0, lt_at hl0, cF6]; rfl) ?_
        obtain rfl : _ = v := hr
        exact w_k (To.cut hwf (Nat.le_refl _) (by first | rfl | (simp (disch := (apply Apart.mk; decide)) only [go_sem, Nat.reduceAdd, Nat.reduceLT, Nat.reduceMul, Nat.reduceLeDiff, Int.reduceToNat, Int.reduceLT, Int.reduceLE, ha0, on_atB hl0, lt_add hl0, lt_at hl0, cF2, cF6]; rfl)) (by simp (disch := (apply Apart.mk; decide)) only [go_sem, Nat.reduceAdd, Nat.reduceLT, Nat.reduceMul, Nat.reduceLeDiff, Int.reduceToNat, Int.reduceLT, Int.reduceLE, ha0, on_atB hl0, lt_add hl0, lt_at hl0, cF2, cF6]))
      · obtain ⟨x, nF7, eF8, gF9, hr⟩ := hr.idx
        refine w_ops_end (by simp (disch := (apply Apart.mk; decide)) only [go_sem, Nat.reduceAdd, Nat.reduceLT, Nat.reduceMul, Nat.reduceLeDiff, Int.reduceToNat, Int.reduceLT, Int.reduceLE, ha0, on_atB hl0, lt_add hl0, lt_at hl0, cF6, nF7, eF8, gF9]; rfl) ?_
        obtain rfl : _ = v := hr
        exact w_k (To.cut hwf (Nat.le_refl _) (by first | rfl | (simp (disch := (apply Apart.mk; decide)) only [go_sem, Nat.reduceAdd, Nat.reduceLT, Nat.reduceMul, Nat.reduceLeDiff, Int.reduceToNat, Int.reduceLT, Int.reduceLE, ha0, on_atB hl0, lt_add hl0, lt_at hl0, cF2, cF6]; rfl)) (by simp (disch := (apply Apart.mk; decide)) only [go_sem, Nat.reduceAdd, Nat.reduceLT, Nat.reduceMul, Nat.reduceLeDiff, Int.reduceToNat, Int.reduceLT, Int.reduceLE, ha0, on_atB hl0, lt_add hl0, lt_at hl0, cF2, cF6]))
    refine w_condH (by simp (disch := (apply Apart.mk; decide)) only [go_sem, Nat.reduceAdd, Nat.reduceLT, Nat.reduceMul, Nat.reduceLeDiff, Int.reduceToNat, Int.reduceLT, Int.reduceLE, ha0, on_atB hl0, lt_add hl0, lt_at hl0, cF2]) hr (fun cF11 hr => ?_) (fun cF11 hr => ?_)
    · refine w_seq ?_
      refine w_region rfl (by simp (disch := (apply Apart.mk; decide)) only [go_sem, Nat.reduceAdd, Nat.reduceLT, Nat.reduceMul, Nat.reduceLeDiff, Int.reduceToNat, Int.reduceLT, Int.reduceLE, ha0, on_atB hl0, lt_add hl0, lt_at hl0, cF2, cF11]; rfl) ?_
      refine (w_n ?_)
      refine w_ret ?_
      obtain rfl := hD _ hr
      exact (w_tr (w_endR (To.cut (os' := []) (sl := [(6, .cv (.val (.int .i64 (0 : Int)))), (7, .cv (.val (.bool false)))]) hwf (Nat.le_refl _) (by first | rfl | (simp (disch := (apply Apart.mk; decide)) only [go_sem, Nat.reduceAdd, Nat.reduceLT, Nat.reduceMul, Nat.reduceLeDiff, Int.reduceToNat, Int.reduceLT, Int.reduceLE, ha0, on_atB hl0, lt_add hl0, lt_at hl0, cF2, cF11]; rfl)) (by simp (disch := (apply Apart.mk; decide)) only [go_sem, Nat.reduceAdd, Nat.reduceLT, Nat.reduceMul, Nat.reduceLeDiff, Int.reduceToNat, Int.reduceLT, Int.reduceLE, ha0, on_atB hl0, lt_add hl0, lt_at hl0, cF2, cF11])) (by simp (disch := (apply Apart.mk; decide)) only [go_sem, Nat.reduceAdd, Nat.reduceLT, Nat.reduceMul, Nat.reduceLeDiff, Int.reduceToNat, Int.reduceLT, Int.reduceLE, ha0, on_atB hl0, lt_add hl0, lt_at hl0, Try.results24, results_data CT_gives24, resCell, resVal.eq_2, loadOp_sv, cF2, cF11]) ⟨rfl, on_nil hwf⟩))
    · refine w_skip ?_
      refine (w_n ?_)
      refine w_seq ?_
      obtain ⟨x1, nF12, eF13, gF14, hr⟩ := hr.idx
      refine w_region rfl (by simp (disch := (apply Apart.mk; decide)) only [go_sem, Nat.reduceAdd, Nat.reduceLT, Nat.reduceMul, Nat.reduceLeDiff, Int.reduceToNat, Int.reduceLT, Int.reduceLE, ha0, on_atB hl0, lt_add hl0, lt_at hl0, nF12, eF13, gF14, cF2, cF11]; rfl) ?_
      refine (w_n ?_)
      refine w_ret ?_
      obtain rfl := hD _ hr
      exact (w_endR (To.cut (os' := []) (sl := [(6, .cv (.val (.int .i64 x1.to))), (7, .cv (.val (.bool true)))]) hwf (Nat.le_refl _) (by first | rfl | (simp (disch := (apply Apart.mk; decide)) only [go_sem, Nat.reduceAdd, Nat.reduceLT, Nat.reduceMul, Nat.reduceLeDiff, Int.reduceToNat, Int.reduceLT, Int.reduceLE, ha0, on_atB hl0, lt_add hl0, lt_at hl0, cF2, cF11]; rfl)) (by simp (disch := (apply Apart.mk; decide)) only [go_sem, Nat.reduceAdd, Nat.reduceLT, Nat.reduceMul, Nat.reduceLeDiff, Int.reduceToNat, Int.reduceLT, Int.reduceLE, ha0, on_atB hl0, lt_add hl0, lt_at hl0, cF2, cF11])) (by simp (disch := (apply Apart.mk; decide)) only [go_sem, Nat.reduceAdd, Nat.reduceLT, Nat.reduceMul, Nat.reduceLeDiff, Int.reduceToNat, Int.reduceLT, Int.reduceLE, ha0, on_atB hl0, lt_add hl0, lt_at hl0, Try.results24, results_data CT_gives24, resCell, resVal.eq_2, loadOp_sv, cF2, cF11]) ⟨rfl, on_nil hwf⟩)
end Go.Val

/- part GW28 -/
/- (*scansion/darray.Array).Start runs as it is read off. -/
namespace Go.Val
set_option linter.unusedVariables false
set_option linter.unusedSimpArgs false
set_option maxRecDepth 20000
open Go.Proofs
theorem darray_Array_Start_runs (a_ : Tdarray_Array) (l0 : Nat) {h : Heap} (ha0 : h.at_ l0 = some (.cells [.val (.sl (List.map eB a_.graph.Final)), .val (.sl (List.map (eL eEdge) a_.graph.Edges)), .row 3 (List.map eI a_.base), .row 91 (List.map edarray_cell a_.cells), .val (.sl (List.map eI a_.count))])) {a : Int} (e : darray_Array_Start a_ = some a) :
    Runs CT 28 [.cv (.val (.ptr (some (l0, 0))))] h fun o h' => o = [.cv (.val (.int .i64 a))] ∧ h' = h := by
  refine Runs.start Try.f28 _ Try.func28 rfl (by rw [Try.ntmps28]; simp) (by rfl) (by rfl) (fun hwf hu => ?_)
  have hl0 := (hwf _ _ ha0).1
  obtain ⟨D, hD, hr⟩ : ∃ D : Int → Prop, (∀ z, D z → z = a) ∧ Holds (darray_Array_Start a_) D := ⟨fun z => z = a, fun _ h => h, Holds.intro e rfl⟩
  dsimp only [darray_Array_Start] at hr
  change wpCode _ _ _ _ _ ⟨[(0, .cv (.val (.ptr (some (l0, 0)))))], h.on []⟩
  refine w_seq ?_
  refine w_region rfl (by simp (disch := (apply Apart.mk; decide)) only [go_sem, Nat.reduceAdd, Nat.reduceLT, Nat.reduceMul, Nat.reduceLeDiff, Int.reduceToNat, Int.reduceLT, Int.reduceLE, ha0, on_atB hl0, lt_add hl0, lt_at hl0]; rfl) ?_
  refine (w_n ?_)
  refine w_seq ?_
  refine w_region rfl (by simp (disch := (apply Apart.mk; decide)) only [go_sem, Nat.reduceAdd, Nat.reduceLT, Nat.reduceMul, Nat.reduceLeDiff, Int.reduceToNat, Int.reduceLT, Int.reduceLE, ha0, on_atB hl0, lt_add hl0, lt_at hl0]; rfl) ?_
  refine (w_n ?_)
  refine w_ret ?_
  obtain rfl := hD _ hr
  exact (w_endR (To.cut (os' := []) (sl := [(2, .cv (.val (.int .i64 (IntKind.i64.wrap ((a_.base.length : Int) - (1 : Int))))))]) hwf (Nat.le_refl _) (by first | rfl | (simp (disch := (apply Apart.mk; decide)) only [go_sem, Nat.reduceAdd, Nat.reduceLT, Nat.reduceMul, Nat.reduceLeDiff, Int.reduceToNat, Int.reduceLT, Int.reduceLE, ha0, on_atB hl0, lt_add hl0, lt_at hl0]; rfl)) (by simp (disch := (apply Apart.mk; decide)) only [go_sem, Nat.reduceAdd, Nat.reduceLT, Nat.reduceMul, Nat.reduceLeDiff, Int.reduceToNat, Int.reduceLT, Int.reduceLE, ha0, on_atB hl0, lt_add hl0, lt_at hl0])) (by simp (disch := (apply Apart.mk; decide)) only [go_sem, Nat.reduceAdd, Nat.reduceLT, Nat.reduceMul, Nat.reduceLeDiff, Int.reduceToNat, Int.reduceLT, Int.reduceLE, ha0, on_atB hl0, lt_add hl0, lt_at hl0, Try.results28, results_data CT_gives28, resCell, resVal.eq_2, loadOp_sv]) ⟨rfl, on_nil hwf⟩)
end Go.Val

/- part GW29 -/
/- (*scansion/darray.Array).Final runs as it is read off. -/
namespace Go.Val
set_option linter.unusedVariables false
set_option linter.unusedSimpArgs false
set_option maxRecDepth 20000
open Go.Proofs
theorem darray_Array_Final_runs (a_ : Tdarray_Array) (s : Int) (l0 : Nat) {h : Heap} (ha0 : h.at_ l0 = some (.cells [.val (.sl (List.map eB a_.graph.Final)), .val (.sl (List.map (eL eEdge) a_.graph.Edges)), .row 3 (List.map eI a_.base), .row 91 (List.map edarray_cell a_.cells), .val (.sl (List.map eI a_.count))])) {a : Bool} (e : darray_Array_Final a_ s = some a) :
    Runs CT 29 [.cv (.val (.ptr (some (l0, 0)))), .cv (.val (.int .i64 s))] h fun o h' => o = [.cv (.val (.bool a))] ∧ h' = h := by
  refine Runs.start Try.f29 _ Try.func29 rfl (by rw [Try.ntmps29]; simp) (by rfl) (by rfl) (fun hwf hu => ?_)
  have hl0 := (hwf _ _ ha0).1
  obtain ⟨D, hD, hr⟩ : ∃ D : Bool → Prop, (∀ z, D z → z = a) ∧ Holds (darray_Array_Final a_ s) D := ⟨fun z => z = a, fun _ h => h, Holds.intro e rfl⟩
  dsimp only [darray_Array_Final] at hr
  change wpCode _ _ _ _ _ ⟨[(0, .cv (.val (.ptr (some (l0, 0))))), (1, .cv (.val (.int .i64 s)))], h.on []⟩
  refine w_seq ?_
  refine w_region rfl (by simp (disch := (apply Apart.mk; decide)) only [go_sem, Nat.reduceAdd, Nat.reduceLT, Nat.reduceMul, Nat.reduceLeDiff, Int.reduceToNat, Int.reduceLT, Int.reduceLE, ha0, on_atB hl0, lt_add hl0, lt_at hl0]; rfl) ?_
  refine (w_n ?_)
  obtain ⟨v, vF6, hr⟩ := hr.bind
  refine w_joinR (sj := ⟨[(4, .cv (.val (.bool v)))], h.on []⟩) (w_ops rfl ?_) ?_
  · have hr := Holds.intro (D := fun z => z = v) vF6 rfl
    refine w_upto 2 rfl (by simp (disch := (apply Apart.mk; decide)) only [go_sem, Nat.reduceAdd, Nat.reduceLT, Nat.reduceMul, Nat.reduceLeDiff, Int.reduceToNat, Int.reduceLT, Int.reduceLE, ha0, on_atB hl0, lt_add hl0, lt_at hl0]; rfl) ?_
    obtain ⟨r, eF1, hr⟩ := hr.bind
    refine w_call' (out := ?o_eF1) (hp := ?p_eF1) rfl (by simp (disch := (apply Apart.mk; decide)) only [go_sem, Nat.reduceAdd, Nat.reduceLT, Nat.reduceMul, Nat.reduceLeDiff, Int.reduceToNat, Int.reduceLT, Int.reduceLE, ha0, on_atB hl0, lt_add hl0, lt_at hl0, Option.getD_some]; rfl) (by simp (disch := (apply Apart.mk; decide)) only [go_sem, Nat.reduceAdd, Nat.reduceLT, Nat.reduceMul, Nat.reduceLeDiff, Int.reduceToNat, Int.reduceLT, Int.reduceLE, ha0, on_atB hl0, lt_add hl0, lt_at hl0, Option.getD_some]; rfl) (by simp (disch := (apply Apart.mk; decide)) only [go_sem, Nat.reduceAdd, Nat.reduceLT, Nat.reduceMul, Nat.reduceLeDiff, Int.reduceToNat, Int.reduceLT, Int.reduceLE, ha0, on_atB hl0, lt_add hl0, lt_at hl0, Option.getD_some]; rfl) ?c_eF1 ?d_eF1 ?_
    case c_eF1 => (refine darray_Array_has_runs a_ s (l0) ?_ eF1; (simp (disch := (apply Apart.mk; decide)) only [go_sem, Nat.reduceAdd, Nat.reduceLT, Nat.reduceMul, Nat.reduceLeDiff, Int.reduceToNat, Int.reduceLT, Int.reduceLE, ha0, on_atB hl0, lt_add hl0, lt_at hl0]))
    case d_eF1 => rfl
    refine w_upto 1 rfl (by simp (disch := (apply Apart.mk; decide)) only [go_sem, Nat.reduceAdd, Nat.reduceLT, Nat.reduceMul, Nat.reduceLeDiff, Int.reduceToNat, Int.reduceLT, Int.reduceLE, ha0, on_atB hl0, lt_add hl0, lt_at hl0]; rfl) ?_
    rcases hr.ite with ⟨cF2, hr⟩ | ⟨cF2, hr⟩
    · obtain ⟨b, nF3, eF4, gF5, hr⟩ := hr.idx
      refine w_ops_end (by simp (disch := (apply Apart.mk; decide)) only [go_sem, Nat.reduceAdd, Nat.reduceLT, Nat.reduceMul, Nat.reduceLeDiff, Int.reduceToNat, Int.reduceLT, Int.reduceLE, ha0, on_atB hl0, lt_add hl0, lt_at hl0, cF2, nF3, eF4, gF5]; rfl) ?_
      obtain rfl : _ = v := hr
      exact w_k (To.cut hwf (Nat.le_refl _) (by first | rfl | (simp (disch := (apply Apart.mk; decide)) only [go_sem, Nat.reduceAdd, Nat.reduceLT, Nat.reduceMul, Nat.reduceLeDiff, Int.reduceToNat, Int.reduceLT, Int.reduceLE, ha0, on_atB hl0, lt_add hl0, lt_at hl0, cF2]; rfl)) (by simp (disch := (apply Apart.mk; decide)) only [go_sem, Nat.reduceAdd, Nat.reduceLT, Nat.reduceMul, Nat.reduceLeDiff, Int.reduceToNat, Int.reduceLT, Int.reduceLE, ha0, on_atB hl0, lt_add hl0, lt_at hl0, cF2]))
    · refine w_ops_end (by simp (disch := (apply Apart.mk; decide)) only [go_sem, Nat.reduceAdd, Nat.reduceLT, Nat.reduceMul, Nat.reduceLeDiff, Int.reduceToNat, Int.reduceLT, Int.reduceLE, ha0, on_atB hl0, lt_add hl0, lt_at hl0, cF2]; rfl) ?_
      obtain rfl : _ = v := hr
      exact w_k (To.cut hwf (Nat.le_refl _) (by first | rfl | (simp (disch := (apply Apart.mk; decide)) only [go_sem, Nat.reduceAdd, Nat.reduceLT, Nat.reduceMul, Nat.reduceLeDiff, Int.reduceToNat, Int.reduceLT, Int.reduceLE, ha0, on_atB hl0, lt_add hl0, lt_at hl0, cF2]; rfl)) (by simp (disch := (apply Apart.mk; decide)) only [go_sem, Nat.reduceAdd, Nat.reduceLT, Nat.reduceMul, Nat.reduceLeDiff, Int.reduceToNat, Int.reduceLT, Int.reduceLE, ha0, on_atB hl0, lt_add hl0, lt_at hl0, cF2]))
  refine w_ret ?_
  obtain rfl := hD _ hr
  exact (w_endR (To.cut (os' := []) (sl := [(4, .cv (.val (.bool v)))]) hwf (Nat.le_refl _) (by first | rfl | (simp (disch := (apply Apart.mk; decide)) only [go_sem, Nat.reduceAdd, Nat.reduceLT, Nat.reduceMul, Nat.reduceLeDiff, Int.reduceToNat, Int.reduceLT, Int.reduceLE, ha0, on_atB hl0, lt_add hl0, lt_at hl0]; rfl)) (by simp (disch := (apply Apart.mk; decide)) only [go_sem, Nat.reduceAdd, Nat.reduceLT, Nat.reduceMul, Nat.reduceLeDiff, Int.reduceToNat, Int.reduceLT, Int.reduceLE, ha0, on_atB hl0, lt_add hl0, lt_at hl0])) (by simp (disch := (apply Apart.mk; decide)) only [go_sem, Nat.reduceAdd, Nat.reduceLT, Nat.reduceMul, Nat.reduceLeDiff, Int.reduceToNat, Int.reduceLT, Int.reduceLE, ha0, on_atB hl0, lt_add hl0, lt_at hl0, Try.results29, results_data CT_gives29, resCell, resVal.eq_2, loadOp_sv]) ⟨rfl, on_nil hwf⟩)
end Go.Val

/- part GW46 -/
/- (*scansion/darray.Array).Prefixes runs as it is read off. -/
namespace Go.Val
set_option linter.unusedVariables false
set_option linter.unusedSimpArgs false
set_option maxRecDepth 20000
open Go.Proofs
theorem darray_Array_Prefixes_runs (a_ : Tdarray_Array) (b : List UInt8) (l0 : Nat) {h : Heap} (ha0 : h.at_ l0 = some (.cells [.val (.sl (List.map eB a_.graph.Final)), .val (.sl (List.map (eL eEdge) a_.graph.Edges)), .row 3 (List.map eI a_.base), .row 91 (List.map edarray_cell a_.cells), .val (.sl (List.map eI a_.count))])) {a : List Int} (e : darray_Array_Prefixes a_ b = some a) :
    Runs CT 46 [.cv (.val (.ptr (some (l0, 0)))), .cv (.val (.sl (List.map eU b)))] h fun o h' => o = [.cv (.val (.sl (List.map eI a)))] ∧ h' = h := by
  refine Runs.start Try.f46 _ Try.func46 rfl (by rw [Try.ntmps46]; simp) (by rfl) (by rfl) (fun hwf hu => ?_)
  have hl0 := (hwf _ _ ha0).1
  obtain ⟨D, hD, hr⟩ : ∃ D : List Int → Prop, (∀ z, D z → z = a) ∧ Holds (darray_Array_Prefixes a_ b) D := ⟨fun z => z = a, fun _ h => h, Holds.intro e rfl⟩
  dsimp only [darray_Array_Prefixes] at hr
  change wpCode _ _ _ _ _ ⟨[(0, .cv (.val (.ptr (some (l0, 0))))), (1, .cv (.val (.sl (List.map eU b))))], h.on []⟩
  refine w_seq ?_
  refine w_region rfl (by simp (disch := (apply Apart.mk; decide)) only [go_sem, Nat.reduceAdd, Nat.reduceLT, Nat.reduceMul, Nat.reduceLeDiff, Int.reduceToNat, Int.reduceLT, Int.reduceLE, ha0, on_atB hl0, lt_add hl0, lt_at hl0]; rfl) ?_
  refine (w_n ?_)
  refine w_seq ?_
  refine w_region rfl (by simp (disch := (apply Apart.mk; decide)) only [go_sem, Nat.reduceAdd, Nat.reduceLT, Nat.reduceMul, Nat.reduceLeDiff, Int.reduceToNat, Int.reduceLT, Int.reduceLE, ha0, on_atB hl0, lt_add hl0, lt_at hl0]; rfl) ?_
  refine (w_n ?_)
  refine w_seq ?_
  refine w_ops rfl ?_
  refine w_upto 1 rfl (by simp (disch := (apply Apart.mk; decide)) only [go_sem, Nat.reduceAdd, Nat.reduceLT, Nat.reduceMul, Nat.reduceLeDiff, Int.reduceToNat, Int.reduceLT, Int.reduceLE, ha0, on_atB hl0, lt_add hl0, lt_at hl0]; rfl) ?_
  obtain ⟨r, eF1, hr⟩ := hr.bind
  refine w_call' (out := ?o_eF1) (hp := ?p_eF1) rfl (by simp (disch := (apply Apart.mk; decide)) only [go_sem, Nat.reduceAdd, Nat.reduceLT, Nat.reduceMul, Nat.reduceLeDiff, Int.reduceToNat, Int.reduceLT, Int.reduceLE, ha0, on_atB hl0, lt_add hl0, lt_at hl0, Option.getD_some]; rfl) (by simp (disch := (apply Apart.mk; decide)) only [go_sem, Nat.reduceAdd, Nat.reduceLT, Nat.reduceMul, Nat.reduceLeDiff, Int.reduceToNat, Int.reduceLT, Int.reduceLE, ha0, on_atB hl0, lt_add hl0, lt_at hl0, Option.getD_some]; rfl) (by simp (disch := (apply Apart.mk; decide)) only [go_sem, Nat.reduceAdd, Nat.reduceLT, Nat.reduceMul, Nat.reduceLeDiff, Int.reduceToNat, Int.reduceLT, Int.reduceLE, ha0, on_atB hl0, lt_add hl0, lt_at hl0, Option.getD_some]; rfl) ?c_eF1 ?d_eF1 ?_
  case c_eF1 => (refine darray_Array_Start_runs a_ (l0) ?_ eF1; (simp (disch := (apply Apart.mk; decide)) only [go_sem, Nat.reduceAdd, Nat.reduceLT, Nat.reduceMul, Nat.reduceLeDiff, Int.reduceToNat, Int.reduceLT, Int.reduceLE, ha0, on_atB hl0, lt_add hl0, lt_at hl0]))
  case d_eF1 => rfl
  refine w_ops_end (by simp (disch := (apply Apart.mk; decide)) only [go_sem, Nat.reduceAdd, Nat.reduceLT, Nat.reduceMul, Nat.reduceLeDiff, Int.reduceToNat, Int.reduceLT, Int.reduceLE, ha0, on_atB hl0, lt_add hl0, lt_at hl0]; rfl) ?_
  refine (w_n ?_)
  refine w_seq ?_
  refine w_seq ?_
  refine w_region rfl (by simp (disch := (apply Apart.mk; decide)) only [go_sem, Nat.reduceAdd, Nat.reduceLT, Nat.reduceMul, Nat.reduceLeDiff, Int.reduceToNat, Int.reduceLT, Int.reduceLE, ha0, on_atB hl0, lt_add hl0, lt_at hl0]; rfl) ?_
  refine (w_n ?_)
  refine w_K (D := D) (fun xX : List Int => ⟨[(5, .cv (.row 3 (List.map eI xX)))], h.on []⟩) (fun xX : List Int => darray_Array_Prefixes.k1 xX) (fun xX s' hr ht => ?_) ?_
  · obtain ⟨out, rfl⟩ : ∃ z, z = xX := ⟨xX, rfl⟩
    dsimp only [darray_Array_Prefixes.k1] at hr ht
    refine (w_nT ht ?_)
    refine w_seq ?_
    refine w_region rfl (by simp (disch := (apply Apart.mk; decide)) only [go_sem, Nat.reduceAdd, Nat.reduceLT, Nat.reduceMul, Nat.reduceLeDiff, Int.reduceToNat, Int.reduceLT, Int.reduceLE, ha0, on_atB hl0, lt_add hl0, lt_at hl0]; rfl) ?_
    refine (w_n ?_)
    refine w_ret ?_
    obtain rfl := hD _ hr
    exact (w_endR (.fix _ _ (.slot 4) 3 _ (by simp (disch := (apply Apart.mk; decide)) only [go_sem, Nat.reduceAdd, Nat.reduceLT, Nat.reduceMul, Nat.reduceLeDiff, Int.reduceToNat, Int.reduceLT, Int.reduceLE, ha0, on_atB hl0, lt_add hl0, lt_at hl0]; rfl) (To.cut (os' := []) (sl := [(4, .cv (.val (.sl (List.map eI out))))]) hwf (Nat.le_refl _) (by first | rfl | (simp (disch := (apply Apart.mk; decide)) only [go_sem, Nat.reduceAdd, Nat.reduceLT, Nat.reduceMul, Nat.reduceLeDiff, Int.reduceToNat, Int.reduceLT, Int.reduceLE, ha0, on_atB hl0, lt_add hl0, lt_at hl0]; rfl)) (by simp (disch := (apply Apart.mk; decide)) only [go_sem, Nat.reduceAdd, Nat.reduceLT, Nat.reduceMul, Nat.reduceLeDiff, Int.reduceToNat, Int.reduceLT, Int.reduceLE, ha0, on_atB hl0, lt_add hl0, lt_at hl0]))) (by simp (disch := (apply Apart.mk; decide)) only [go_sem, Nat.reduceAdd, Nat.reduceLT, Nat.reduceMul, Nat.reduceLeDiff, Int.reduceToNat, Int.reduceLT, Int.reduceLE, ha0, on_atB hl0, lt_add hl0, lt_at hl0, Try.results46, results_data CT_gives46, resCell, resVal.eq_2, loadOp_sv]) ⟨rfl, on_nil hwf⟩)
  · refine w_block ?_
    refine w_Loop (fun xX : (List Int × Int × Bool × Int) => ⟨[(0, .cv (.val (.ptr (some (l0, 0))))), (1, .cv (.val (.sl (List.map eU b)))), (5, .cv (.row 3 (List.map eI xX.1))), (6, .cv (.val (.int .i64 xX.2.1))), (7, .cv (.val (.bool xX.2.2.1))), (8, .cv (.val (.int .i64 xX.2.2.2)))], h.on []⟩) hr (To.cut hwf (Nat.le_refl _) (by first | rfl | (simp (disch := (apply Apart.mk; decide)) only [go_sem, Nat.reduceAdd, Nat.reduceLT, Nat.reduceMul, Nat.reduceLeDiff, Int.reduceToNat, Int.reduceLT, Int.reduceLE, ha0, on_atB hl0, lt_add hl0, lt_at hl0]; rfl)) (by simp (disch := (apply Apart.mk; decide)) only [go_sem, Nat.reduceAdd, Nat.reduceLT, Nat.reduceMul, Nat.reduceLeDiff, Int.reduceToNat, Int.reduceLT, Int.reduceLE, ha0, on_atB hl0, lt_add hl0, lt_at hl0])) (fun W1 xX hr => ?_)
    obtain ⟨out1, s, is, n⟩ := xX
    dsimp only [darray_Array_Prefixes.b1] at hr
    refine w_seq ?_
    refine w_seq ?_
    refine w_region rfl (by simp (disch := (apply Apart.mk; decide)) only [go_sem, Nat.reduceAdd, Nat.reduceLT, Nat.reduceMul, Nat.reduceLeDiff, Int.reduceToNat, Int.reduceLT, Int.reduceLE, ha0, on_atB hl0, lt_add hl0, lt_at hl0]; rfl) ?_
    refine (w_n ?_)
    refine w_condH (by simp (disch := (apply Apart.mk; decide)) only [go_sem, Nat.reduceAdd, Nat.reduceLT, Nat.reduceMul, Nat.reduceLeDiff, Int.reduceToNat, Int.reduceLT, Int.reduceLE, ha0, on_atB hl0, lt_add hl0, lt_at hl0]) hr (fun cF2 hr => ?_) (fun cF2 hr => ?_)
    · refine w_skip ?_
      refine (w_n ?_)
      refine w_seq ?_
      refine w_block ?_
      refine w_seq ?_
      refine w_seq ?_
      refine w_ops rfl ?_
      refine w_upto 2 rfl (by simp (disch := (apply Apart.mk; decide)) only [go_sem, Nat.reduceAdd, Nat.reduceLT, Nat.reduceMul, Nat.reduceLeDiff, Int.reduceToNat, Int.reduceLT, Int.reduceLE, ha0, on_atB hl0, lt_add hl0, lt_at hl0]; rfl) ?_
      obtain ⟨r1, eF3, hr⟩ := hr.bind
      refine w_call' (out := ?o_eF3) (hp := ?p_eF3) rfl (by simp (disch := (apply Apart.mk; decide)) only [go_sem, Nat.reduceAdd, Nat.reduceLT, Nat.reduceMul, Nat.reduceLeDiff, Int.reduceToNat, Int.reduceLT, Int.reduceLE, ha0, on_atB hl0, lt_add hl0, lt_at hl0, Option.getD_some]; rfl) (by simp (disch := (apply Apart.mk; decide)) only [go_sem, Nat.reduceAdd, Nat.reduceLT, Nat.reduceMul, Nat.reduceLeDiff, Int.reduceToNat, Int.reduceLT, Int.reduceLE, ha0, on_atB hl0, lt_add hl0, lt_at hl0, Option.getD_some]; rfl) (by simp (disch := (apply Apart.mk; decide)) only [go_sem, Nat.reduceAdd, Nat.reduceLT, Nat.reduceMul, Nat.reduceLeDiff, Int.reduceToNat, Int.reduceLT, Int.reduceLE, ha0, on_atB hl0, lt_add hl0, lt_at hl0, Option.getD_some]; rfl) ?c_eF3 ?d_eF3 ?_
      case c_eF3 => (refine darray_Array_Final_runs a_ s (l0) ?_ eF3; (simp (disch := (apply Apart.mk; decide)) only [go_sem, Nat.reduceAdd, Nat.reduceLT, Nat.reduceMul, Nat.reduceLeDiff, Int.reduceToNat, Int.reduceLT, Int.reduceLE, ha0, on_atB hl0, lt_add hl0, lt_at hl0]))
      case d_eF3 => rfl
      refine w_ops_nil ?_
      refine (w_n ?_)
      refine w_K (D := (Aft W1 D)) (fun xX : List Int => ⟨[(0, .cv (.val (.ptr (some (l0, 0))))), (1, .cv (.val (.sl (List.map eU b)))), (5, .cv (.row 3 (List.map eI xX))), (6, .cv (.val (.int .i64 s))), (8, .cv (.val (.int .i64 n)))], h.on []⟩) (fun xX : List Int => darray_Array_Prefixes.k2 a_ b s n xX) (fun xX s' hr ht => ?_) ?_
      · obtain ⟨out2, rfl⟩ : ∃ z, z = xX := ⟨xX, rfl⟩
        dsimp only [darray_Array_Prefixes.k2] at hr ht
        refine (w_nT ht ?_)
        refine w_seq ?_
        refine w_seq ?_
        refine w_region rfl (by simp (disch := (apply Apart.mk; decide)) only [go_sem, Nat.reduceAdd, Nat.reduceLT, Nat.reduceMul, Nat.reduceLeDiff, Int.reduceToNat, Int.reduceLT, Int.reduceLE, ha0, on_atB hl0, lt_add hl0, lt_at hl0, cF2]; rfl) ?_
        refine (w_n ?_)
        refine w_condH (by simp (disch := (apply Apart.mk; decide)) only [go_sem, Nat.reduceAdd, Nat.reduceLT, Nat.reduceMul, Nat.reduceLeDiff, Int.reduceToNat, Int.reduceLT, Int.reduceLE, ha0, on_atB hl0, lt_add hl0, lt_at hl0, cF2]) hr (fun cF4 hr => ?_) (fun cF4 hr => ?_)
        · refine w_exit ?_
          exact (w_te (w_bo (w_te (w_te (w_bx (w_k ⟨out2, (hr).map, (To.cut hwf (Nat.le_refl _) (by first | rfl | (simp (disch := (apply Apart.mk; decide)) only [go_sem, Nat.reduceAdd, Nat.reduceLT, Nat.reduceMul, Nat.reduceLeDiff, Int.reduceToNat, Int.reduceLT, Int.reduceLE, ha0, on_atB hl0, lt_add hl0, lt_at hl0, cF2, cF4]; rfl)) (by simp (disch := (apply Apart.mk; decide)) only [go_sem, Nat.reduceAdd, Nat.reduceLT, Nat.reduceMul, Nat.reduceLeDiff, Int.reduceToNat, Int.reduceLT, Int.reduceLE, ha0, on_atB hl0, lt_add hl0, lt_at hl0, cF2, cF4]))⟩)))) rfl))
        · refine w_skip ?_
          refine (w_n ?_)
          refine w_ops rfl ?_
          obtain ⟨n1, nF5, eF6, gF7, hr⟩ := hr.idx
          refine w_upto 6 rfl (by simp (disch := (apply Apart.mk; decide)) only [go_sem, Nat.reduceAdd, Nat.reduceLT, Nat.reduceMul, Nat.reduceLeDiff, Int.reduceToNat, Int.reduceLT, Int.reduceLE, ha0, on_atB hl0, lt_add hl0, lt_at hl0, nF5, eF6, gF7]; rfl) ?_
          obtain ⟨r2, eF8, hr⟩ := hr.bind
          refine w_call' (out := ?o_eF8) (hp := ?p_eF8) rfl (by simp (disch := (apply Apart.mk; decide)) only [go_sem, Nat.reduceAdd, Nat.reduceLT, Nat.reduceMul, Nat.reduceLeDiff, Int.reduceToNat, Int.reduceLT, Int.reduceLE, ha0, on_atB hl0, lt_add hl0, lt_at hl0, Option.getD_some, nF5, eF6, gF7]; rfl) (by simp (disch := (apply Apart.mk; decide)) only [go_sem, Nat.reduceAdd, Nat.reduceLT, Nat.reduceMul, Nat.reduceLeDiff, Int.reduceToNat, Int.reduceLT, Int.reduceLE, ha0, on_atB hl0, lt_add hl0, lt_at hl0, Option.getD_some, nF5, eF6, gF7]; rfl) (by simp (disch := (apply Apart.mk; decide)) only [go_sem, Nat.reduceAdd, Nat.reduceLT, Nat.reduceMul, Nat.reduceLeDiff, Int.reduceToNat, Int.reduceLT, Int.reduceLE, ha0, on_atB hl0, lt_add hl0, lt_at hl0, Option.getD_some, nF5, eF6, gF7]; rfl) ?c_eF8 ?d_eF8 ?_
          case c_eF8 => (refine darray_Array_Step_runs a_ s n1 (l0) ?_ eF8; (simp (disch := (apply Apart.mk; decide)) only [go_sem, Nat.reduceAdd, Nat.reduceLT, Nat.reduceMul, Nat.reduceLeDiff, Int.reduceToNat, Int.reduceLT, Int.reduceLE, ha0, on_atB hl0, lt_add hl0, lt_at hl0]))
          case d_eF8 => rfl
          refine w_ops_end (by simp (disch := (apply Apart.mk; decide)) only [go_sem, Nat.reduceAdd, Nat.reduceLT, Nat.reduceMul, Nat.reduceLeDiff, Int.reduceToNat, Int.reduceLT, Int.reduceLE, ha0, on_atB hl0, lt_add hl0, lt_at hl0, nF5, eF6, gF7]; rfl) ?_
          refine (w_bn (w_n ?_))
          refine w_region rfl (by simp (disch := (apply Apart.mk; decide)) only [go_sem, Nat.reduceAdd, Nat.reduceLT, Nat.reduceMul, Nat.reduceLeDiff, Int.reduceToNat, Int.reduceLT, Int.reduceLE, ha0, on_atB hl0, lt_add hl0, lt_at hl0, cF2, cF4]; rfl) ?_
          exact (w_k ⟨(out2, r2.1, r2.2, (IntKind.i64.wrap (n + (1 : Int)))), hr, (To.cut hwf (Nat.le_refl _) (by first | rfl | (simp (disch := (apply Apart.mk; decide)) only [go_sem, Nat.reduceAdd, Nat.reduceLT, Nat.reduceMul, Nat.reduceLeDiff, Int.reduceToNat, Int.reduceLT, Int.reduceLE, ha0, on_atB hl0, lt_add hl0, lt_at hl0, cF2, cF4]; rfl)) (by simp (disch := (apply Apart.mk; decide)) only [go_sem, Nat.reduceAdd, Nat.reduceLT, Nat.reduceMul, Nat.reduceLeDiff, Int.reduceToNat, Int.reduceLT, Int.reduceLE, ha0, on_atB hl0, lt_add hl0, lt_at hl0, cF2, cF4]))⟩)
      · refine w_condH (by simp (disch := (apply Apart.mk; decide)) only [go_sem, Nat.reduceAdd, Nat.reduceLT, Nat.reduceMul, Nat.reduceLeDiff, Int.reduceToNat, Int.reduceLT, Int.reduceLE, ha0, on_atB hl0, lt_add hl0, lt_at hl0, cF2]) hr (fun cF9 hr => ?_) (fun cF9 hr => ?_)
        · obtain ⟨nF10, hr⟩ := hr.room
          refine w_region rfl (by simp (disch := (apply Apart.mk; decide)) only [go_sem, Nat.reduceAdd, Nat.reduceLT, Nat.reduceMul, Nat.reduceLeDiff, Int.reduceToNat, Int.reduceLT, Int.reduceLE, ha0, on_atB hl0, lt_add hl0, lt_at hl0, nF10, cF2, cF9]; rfl) ?_
          exact (w_k ⟨(out1 ++ ([n])), hr, (To.cut hwf (Nat.le_refl _) (by first | rfl | (simp (disch := (apply Apart.mk; decide)) only [go_sem, Nat.reduceAdd, Nat.reduceLT, Nat.reduceMul, Nat.reduceLeDiff, Int.reduceToNat, Int.reduceLT, Int.reduceLE, ha0, on_atB hl0, lt_add hl0, lt_at hl0, cF2, cF9]; rfl)) (by simp (disch := (apply Apart.mk; decide)) only [go_sem, Nat.reduceAdd, Nat.reduceLT, Nat.reduceMul, Nat.reduceLeDiff, Int.reduceToNat, Int.reduceLT, Int.reduceLE, ha0, on_atB hl0, lt_add hl0, lt_at hl0, cF2, cF9]))⟩)
        · refine w_skip ?_
          exact (w_k ⟨out1, hr, (To.cut hwf (Nat.le_refl _) (by first | rfl | (simp (disch := (apply Apart.mk; decide)) only [go_sem, Nat.reduceAdd, Nat.reduceLT, Nat.reduceMul, Nat.reduceLeDiff, Int.reduceToNat, Int.reduceLT, Int.reduceLE, ha0, on_atB hl0, lt_add hl0, lt_at hl0, cF2, cF9]; rfl)) (by simp (disch := (apply Apart.mk; decide)) only [go_sem, Nat.reduceAdd, Nat.reduceLT, Nat.reduceMul, Nat.reduceLeDiff, Int.reduceToNat, Int.reduceLT, Int.reduceLE, ha0, on_atB hl0, lt_add hl0, lt_at hl0, cF2, cF9]))⟩)
    · refine w_exit ?_
      exact (w_te (w_te (w_bx (w_k ⟨out1, (hr).map, (To.cut hwf (Nat.le_refl _) (by first | rfl | (simp (disch := (apply Apart.mk; decide)) only [go_sem, Nat.reduceAdd, Nat.reduceLT, Nat.reduceMul, Nat.reduceLeDiff, Int.reduceToNat, Int.reduceLT, Int.reduceLE, ha0, on_atB hl0, lt_add hl0, lt_at hl0, cF2]; rfl)) (by simp (disch := (apply Apart.mk; decide)) only [go_sem, Nat.reduceAdd, Nat.reduceLT, Nat.reduceMul, Nat.reduceLeDiff, Int.reduceToNat, Int.reduceLT, Int.reduceLE, ha0, on_atB hl0, lt_add hl0, lt_at hl0, cF2]))⟩))))
end Go.Val

/- part GW66 -/
/- scansion/packed.Number runs as it is read off. -/
namespace Go.Val
set_option linter.unusedVariables false
set_option linter.unusedSimpArgs false
set_option maxRecDepth 20000
open Go.Proofs
theorem packed_Number_runs (n : Int) {h : Heap} {a : List UInt8} (e : packed_Number n = some a) :
    Runs CT 66 [.cv (.val (.int .i64 n))] h fun o h' => o = [.cv (.row 5 (List.map eU a))] ∧ h' = h := by
  refine Runs.start Try.f66 _ Try.func66 rfl (by rw [Try.ntmps66]; simp) (by rfl) (by rfl) (fun hwf hu => ?_)
  obtain ⟨D, hD, hr⟩ : ∃ D : List UInt8 → Prop, (∀ z, D z → z = a) ∧ Holds (packed_Number n) D := ⟨fun z => z = a, fun _ h => h, Holds.intro e rfl⟩
  dsimp only [packed_Number] at hr
  change wpCode _ _ _ _ _ ⟨[(0, .cv (.val (.int .i64 n)))], h.on []⟩
  refine w_seq ?_
  refine w_region rfl (by simp (disch := (apply Apart.mk; decide)) only [go_sem, Nat.reduceAdd, Nat.reduceLT, Nat.reduceMul, Nat.reduceLeDiff, Int.reduceToNat, Int.reduceLT, Int.reduceLE]; rfl) ?_
  refine (w_n ?_)
  refine w_seq ?_
  refine w_region rfl (by simp (disch := (apply Apart.mk; decide)) only [go_sem, Nat.reduceAdd, Nat.reduceLT, Nat.reduceMul, Nat.reduceLeDiff, Int.reduceToNat, Int.reduceLT, Int.reduceLE]; rfl) ?_
  refine (w_n ?_)
  refine w_seq ?_
  refine w_seq ?_
  refine w_region rfl (by simp (disch := (apply Apart.mk; decide)) only [go_sem, Nat.reduceAdd, Nat.reduceLT, Nat.reduceMul, Nat.reduceLeDiff, Int.reduceToNat, Int.reduceLT, Int.reduceLE]; rfl) ?_
  refine (w_n ?_)
  refine w_K (D := D) (fun xX : (Int × List UInt8) => ⟨[(0, .cv (.val (.int .i64 xX.1))), (3, .cv (.row 5 (List.map eU xX.2)))], h.on []⟩) (fun xX : (Int × List UInt8) => packed_Number.k1 xX.1 xX.2) (fun xX s' hr ht => ?_) ?_
  · obtain ⟨n1, out⟩ := xX
    dsimp only [packed_Number.k1] at hr ht
    refine (w_nT ht ?_)
    refine w_seq ?_
    obtain ⟨nF1, hr⟩ := hr.room
    refine w_region rfl (by simp (disch := (apply Apart.mk; decide)) only [go_sem, Nat.reduceAdd, Nat.reduceLT, Nat.reduceMul, Nat.reduceLeDiff, Int.reduceToNat, Int.reduceLT, Int.reduceLE, nF1]; rfl) ?_
    refine (w_n ?_)
    refine w_ret ?_
    obtain rfl := hD _ hr
    exact (w_endR (To.cut (os' := []) (sl := [(2, .cv (.row 5 (List.map eU (out ++ ([(u8 (IntKind.u8.wrap n1))])))))]) hwf (Nat.le_refl _) rfl (by simp (disch := (apply Apart.mk; decide)) only [go_sem, Nat.reduceAdd, Nat.reduceLT, Nat.reduceMul, Nat.reduceLeDiff, Int.reduceToNat, Int.reduceLT, Int.reduceLE])) (by simp (disch := (apply Apart.mk; decide)) only [go_sem, Nat.reduceAdd, Nat.reduceLT, Nat.reduceMul, Nat.reduceLeDiff, Int.reduceToNat, Int.reduceLT, Int.reduceLE, Try.results66, results_move CT_gives66, resCell, resVal.eq_2, loadOp_sv]) ⟨rfl, on_nil hwf⟩)
  · refine w_block ?_
    refine w_Loop (fun xX : (Int × List UInt8) => ⟨[(0, .cv (.val (.int .i64 xX.1))), (3, .cv (.row 5 (List.map eU xX.2)))], h.on []⟩) hr (To.cut hwf (Nat.le_refl _) rfl (by simp (disch := (apply Apart.mk; decide)) only [go_sem, Nat.reduceAdd, Nat.reduceLT, Nat.reduceMul, Nat.reduceLeDiff, Int.reduceToNat, Int.reduceLT, Int.reduceLE])) (fun W1 xX hr => ?_)
    obtain ⟨n2, out1⟩ := xX
    dsimp only [packed_Number.b1] at hr
    refine w_seq ?_
    refine w_seq ?_
    refine w_region rfl (by simp (disch := (apply Apart.mk; decide)) only [go_sem, Nat.reduceAdd, Nat.reduceLT, Nat.reduceMul, Nat.reduceLeDiff, Int.reduceToNat, Int.reduceLT, Int.reduceLE]; rfl) ?_
    refine (w_n ?_)
    refine w_condH (by simp (disch := (apply Apart.mk; decide)) only [go_sem, Nat.reduceAdd, Nat.reduceLT, Nat.reduceMul, Nat.reduceLeDiff, Int.reduceToNat, Int.reduceLT, Int.reduceLE]) hr (fun cF2 hr => ?_) (fun cF2 hr => ?_)
    · refine w_skip ?_
      refine (w_n ?_)
      refine w_seq ?_
      refine w_block ?_
      obtain ⟨nF3, hr⟩ := hr.room
      refine w_region rfl (by simp (disch := (apply Apart.mk; decide)) only [go_sem, Nat.reduceAdd, Nat.reduceLT, Nat.reduceMul, Nat.reduceLeDiff, Int.reduceToNat, Int.reduceLT, Int.reduceLE, nF3, cF2]; rfl) ?_
      refine (w_bn (w_n ?_))
      refine w_region rfl (by simp (disch := (apply Apart.mk; decide)) only [go_sem, Nat.reduceAdd, Nat.reduceLT, Nat.reduceMul, Nat.reduceLeDiff, Int.reduceToNat, Int.reduceLT, Int.reduceLE, (eq_false (by decide : ¬ ((7 : Int) < 0))), cF2]; rfl) ?_
      exact (w_k ⟨((shR .i64 n2 (7 : Int)), (out1 ++ ([(u8 (IntKind.u8.wrap (bOr .i64 n2 (128 : Int))))]))), hr, (To.cut hwf (Nat.le_refl _) rfl (by simp (disch := (apply Apart.mk; decide)) only [go_sem, Nat.reduceAdd, Nat.reduceLT, Nat.reduceMul, Nat.reduceLeDiff, Int.reduceToNat, Int.reduceLT, Int.reduceLE, cF2]))⟩)
    · refine w_exit ?_
      exact (w_te (w_te (w_bx (w_k ⟨(n2, out1), (hr).map, (To.cut hwf (Nat.le_refl _) rfl (by simp (disch := (apply Apart.mk; decide)) only [go_sem, Nat.reduceAdd, Nat.reduceLT, Nat.reduceMul, Nat.reduceLeDiff, Int.reduceToNat, Int.reduceLT, Int.reduceLE, cF2]))⟩))))
end Go.Val

/- part GW45 -/
/- (*scansion/darray.Array).Save runs as it is read off. -/
namespace Go.Val
set_option linter.unusedVariables false
set_option linter.unusedSimpArgs false
set_option maxRecDepth 20000
open Go.Proofs
theorem darray_Array_Save_runs (a_ : Tdarray_Array) (l0 : Nat) {h : Heap} (ha0 : h.at_ l0 = some (.cells [.val (.sl (List.map eB a_.graph.Final)), .val (.sl (List.map (eL eEdge) a_.graph.Edges)), .row 3 (List.map eI a_.base), .row 91 (List.map edarray_cell a_.cells), .val (.sl (List.map eI a_.count))])) {a : List UInt8} (e : darray_Array_Save a_ = some a) :
    Runs CT 45 [.cv (.val (.ptr (some (l0, 0))))] h fun o h' => o = [.cv (.val (.sl (List.map eU a)))] ∧ h' = h := by
  refine Runs.start Try.f45 _ Try.func45 rfl (by rw [Try.ntmps45]; simp) (by rfl) (by rfl) (fun hwf hu => ?_)
  have hl0 := (hwf _ _ ha0).1
  obtain ⟨D, hD, hr⟩ : ∃ D : List UInt8 → Prop, (∀ z, D z → z = a) ∧ Holds (darray_Array_Save a_) D := ⟨fun z => z = a, fun _ h => h, Holds.intro e rfl⟩
  dsimp only [darray_Array_Save] at hr
  change wpCode _ _ _ _ _ ⟨[(0, .cv (.val (.ptr (some (l0, 0)))))], h.on []⟩
  refine w_seq ?_
  refine w_region rfl (by simp (disch := (apply Apart.mk; decide)) only [go_sem, Nat.reduceAdd, Nat.reduceLT, Nat.reduceMul, Nat.reduceLeDiff, Int.reduceToNat, Int.reduceLT, Int.reduceLE, ha0, on_atB hl0, lt_add hl0, lt_at hl0]; rfl) ?_
  refine (w_n ?_)
  refine w_seq ?_
  refine w_ops rfl ?_
  refine w_upto 6 rfl (by simp (disch := (apply Apart.mk; decide)) only [go_sem, Nat.reduceAdd, Nat.reduceLT, Nat.reduceMul, Nat.reduceLeDiff, Int.reduceToNat, Int.reduceLT, Int.reduceLE, ha0, on_atB hl0, lt_add hl0, lt_at hl0]; rfl) ?_
  obtain ⟨r, eF1, hr⟩ := hr.bind
  refine w_call' (out := ?o_eF1) (hp := ?p_eF1) rfl (by simp (disch := (apply Apart.mk; decide)) only [go_sem, Nat.reduceAdd, Nat.reduceLT, Nat.reduceMul, Nat.reduceLeDiff, Int.reduceToNat, Int.reduceLT, Int.reduceLE, ha0, on_atB hl0, lt_add hl0, lt_at hl0, Option.getD_some]; rfl) (by simp (disch := (apply Apart.mk; decide)) only [go_sem, Nat.reduceAdd, Nat.reduceLT, Nat.reduceMul, Nat.reduceLeDiff, Int.reduceToNat, Int.reduceLT, Int.reduceLE, ha0, on_atB hl0, lt_add hl0, lt_at hl0, Option.getD_some]; rfl) (by simp (disch := (apply Apart.mk; decide)) only [go_sem, Nat.reduceAdd, Nat.reduceLT, Nat.reduceMul, Nat.reduceLeDiff, Int.reduceToNat, Int.reduceLT, Int.reduceLE, ha0, on_atB hl0, lt_add hl0, lt_at hl0, Option.getD_some]; rfl) ?c_eF1 ?d_eF1 ?_
  case c_eF1 => exact packed_Number_runs (a_.graph.Final.length : Int) eF1
  case d_eF1 => rfl
  refine w_ops_end (by simp (disch := (apply Apart.mk; decide)) only [go_sem, Nat.reduceAdd, Nat.reduceLT, Nat.reduceMul, Nat.reduceLeDiff, Int.reduceToNat, Int.reduceLT, Int.reduceLE, ha0, on_atB hl0, lt_add hl0, lt_at hl0]; rfl) ?_
  refine (w_n ?_)
  refine w_seq ?_
  refine w_seq ?_
  refine w_region rfl (by simp (disch := (apply Apart.mk; decide)) only [go_sem, Nat.reduceAdd, Nat.reduceLT, Nat.reduceMul, Nat.reduceLeDiff, Int.reduceToNat, Int.reduceLT, Int.reduceLE, ha0, on_atB hl0, lt_add hl0, lt_at hl0]; rfl) ?_
  refine (w_n ?_)
  refine w_K (D := D) (fun xX : List UInt8 => ⟨[(3, .cv (.row 5 (List.map eU xX)))], h.on []⟩) (fun xX : List UInt8 => darray_Array_Save.k1 xX) (fun xX s' hr ht => ?_) ?_
  · obtain ⟨out, rfl⟩ : ∃ z, z = xX := ⟨xX, rfl⟩
    dsimp only [darray_Array_Save.k1] at hr ht
    refine (w_nT ht ?_)
    refine w_seq ?_
    refine w_region rfl (by simp (disch := (apply Apart.mk; decide)) only [go_sem, Nat.reduceAdd, Nat.reduceLT, Nat.reduceMul, Nat.reduceLeDiff, Int.reduceToNat, Int.reduceLT, Int.reduceLE, ha0, on_atB hl0, lt_add hl0, lt_at hl0]; rfl) ?_
    refine (w_n ?_)
    refine w_ret ?_
    obtain rfl := hD _ hr
    exact (w_endR (.fix _ _ (.slot 2) 5 _ (by simp (disch := (apply Apart.mk; decide)) only [go_sem, Nat.reduceAdd, Nat.reduceLT, Nat.reduceMul, Nat.reduceLeDiff, Int.reduceToNat, Int.reduceLT, Int.reduceLE, ha0, on_atB hl0, lt_add hl0, lt_at hl0]; rfl) (To.cut (os' := []) (sl := [(2, .cv (.val (.sl (List.map eU out))))]) hwf (Nat.le_refl _) (by first | rfl | (simp (disch := (apply Apart.mk; decide)) only [go_sem, Nat.reduceAdd, Nat.reduceLT, Nat.reduceMul, Nat.reduceLeDiff, Int.reduceToNat, Int.reduceLT, Int.reduceLE, ha0, on_atB hl0, lt_add hl0, lt_at hl0]; rfl)) (by simp (disch := (apply Apart.mk; decide)) only [go_sem, Nat.reduceAdd, Nat.reduceLT, Nat.reduceMul, Nat.reduceLeDiff, Int.reduceToNat, Int.reduceLT, Int.reduceLE, ha0, on_atB hl0, lt_add hl0, lt_at hl0]))) (by simp (disch := (apply Apart.mk; decide)) only [go_sem, Nat.reduceAdd, Nat.reduceLT, Nat.reduceMul, Nat.reduceLeDiff, Int.reduceToNat, Int.reduceLT, Int.reduceLE, ha0, on_atB hl0, lt_add hl0, lt_at hl0, Try.results45, results_data CT_gives45, resCell, resVal.eq_2, loadOp_sv]) ⟨rfl, on_nil hwf⟩)
  · refine w_block ?_
    refine w_Loop (fun xX : (List UInt8 × Int) => ⟨[(0, .cv (.val (.ptr (some (l0, 0))))), (3, .cv (.row 5 (List.map eU xX.1))), (20, .cv (.val (.sl (List.map (eL eEdge) a_.graph.Edges)))), (21, .cv (.val (.int .i64 (a_.graph.Edges.length : Int)))), (22, .cv (.val (.int .i64 xX.2)))], h.on []⟩) hr (To.cut hwf (Nat.le_refl _) (by first | rfl | (simp (disch := (apply Apart.mk; decide)) only [go_sem, Nat.reduceAdd, Nat.reduceLT, Nat.reduceMul, Nat.reduceLeDiff, Int.reduceToNat, Int.reduceLT, Int.reduceLE, ha0, on_atB hl0, lt_add hl0, lt_at hl0]; rfl)) (by simp (disch := (apply Apart.mk; decide)) only [go_sem, Nat.reduceAdd, Nat.reduceLT, Nat.reduceMul, Nat.reduceLeDiff, Int.reduceToNat, Int.reduceLT, Int.reduceLE, ha0, on_atB hl0, lt_add hl0, lt_at hl0])) (fun W1 xX hr => ?_)
    obtain ⟨out1, v⟩ := xX
    dsimp only [darray_Array_Save.b1] at hr
    refine w_seq ?_
    refine w_region rfl (by simp (disch := (apply Apart.mk; decide)) only [go_sem, Nat.reduceAdd, Nat.reduceLT, Nat.reduceMul, Nat.reduceLeDiff, Int.reduceToNat, Int.reduceLT, Int.reduceLE, ha0, on_atB hl0, lt_add hl0, lt_at hl0]; rfl) ?_
    refine (w_n ?_)
    refine w_seq ?_
    refine w_condH (by simp (disch := (apply Apart.mk; decide)) only [go_sem, Nat.reduceAdd, Nat.reduceLT, Nat.reduceMul, Nat.reduceLeDiff, Int.reduceToNat, Int.reduceLT, Int.reduceLE, ha0, on_atB hl0, lt_add hl0, lt_at hl0]) hr (fun cF2 hr => ?_) (fun cF2 hr => ?_)
    · refine w_skip ?_
      refine (w_n ?_)
      refine w_seq ?_
      refine w_K (D := (Aft W1 D)) (fun xX : List UInt8 => ⟨[(0, .cv (.val (.ptr (some (l0, 0))))), (3, .cv (.row 5 (List.map eU xX))), (20, .cv (.val (.sl (List.map (eL eEdge) a_.graph.Edges)))), (21, .cv (.val (.int .i64 (a_.graph.Edges.length : Int)))), (22, .cv (.val (.int .i64 v)))], h.on []⟩) (fun xX : List UInt8 => darray_Array_Save.k2 v xX) (fun xX s' hr ht => ?_) ?_
      · obtain ⟨out2, rfl⟩ : ∃ z, z = xX := ⟨xX, rfl⟩
        dsimp only [darray_Array_Save.k2] at hr ht
        refine (w_nT ht ?_)
        refine w_region rfl (by simp (disch := (apply Apart.mk; decide)) only [go_sem, Nat.reduceAdd, Nat.reduceLT, Nat.reduceMul, Nat.reduceLeDiff, Int.reduceToNat, Int.reduceLT, Int.reduceLE, ha0, on_atB hl0, lt_add hl0, lt_at hl0, cF2]; rfl) ?_
        exact (w_k ⟨(out2, (IntKind.i64.wrap (v + (1 : Int)))), hr, (To.cut hwf (Nat.le_refl _) (by first | rfl | (simp (disch := (apply Apart.mk; decide)) only [go_sem, Nat.reduceAdd, Nat.reduceLT, Nat.reduceMul, Nat.reduceLeDiff, Int.reduceToNat, Int.reduceLT, Int.reduceLE, ha0, on_atB hl0, lt_add hl0, lt_at hl0, cF2]; rfl)) (by simp (disch := (apply Apart.mk; decide)) only [go_sem, Nat.reduceAdd, Nat.reduceLT, Nat.reduceMul, Nat.reduceLeDiff, Int.reduceToNat, Int.reduceLT, Int.reduceLE, ha0, on_atB hl0, lt_add hl0, lt_at hl0, cF2]))⟩)
      · refine w_block ?_
        refine w_seq ?_
        obtain ⟨xs, nF3, eF4, gF5, hr⟩ := hr.idx
        refine w_region rfl (by simp (disch := (apply Apart.mk; decide)) only [go_sem, Nat.reduceAdd, Nat.reduceLT, Nat.reduceMul, Nat.reduceLeDiff, Int.reduceToNat, Int.reduceLT, Int.reduceLE, ha0, on_atB hl0, lt_add hl0, lt_at hl0, nF3, eF4, gF5, cF2]; rfl) ?_
        refine (w_n ?_)
        refine w_seq ?_
        refine w_region rfl (by simp (disch := (apply Apart.mk; decide)) only [go_sem, Nat.reduceAdd, Nat.reduceLT, Nat.reduceMul, Nat.reduceLeDiff, Int.reduceToNat, Int.reduceLT, Int.reduceLE, ha0, on_atB hl0, lt_add hl0, lt_at hl0, cF2]; rfl) ?_
        refine (w_n ?_)
        refine w_seq ?_
        refine w_seq ?_
        obtain ⟨b, nF6, eF7, gF8, hr⟩ := hr.idx
        refine w_region rfl (by simp (disch := (apply Apart.mk; decide)) only [go_sem, Nat.reduceAdd, Nat.reduceLT, Nat.reduceMul, Nat.reduceLeDiff, Int.reduceToNat, Int.reduceLT, Int.reduceLE, ha0, on_atB hl0, lt_add hl0, lt_at hl0, nF6, eF7, gF8, cF2]; rfl) ?_
        refine (w_n ?_)
        refine w_K (D := (Aft W1 D)) (fun xX : UInt8 => ⟨[(0, .cv (.val (.ptr (some (l0, 0))))), (3, .cv (.row 5 (List.map eU out1))), (5, .cv (.val (.sl (List.map eEdge xs)))), (6, .cv (.val (.int .u8 (xX.toNat : Int)))), (20, .cv (.val (.sl (List.map (eL eEdge) a_.graph.Edges)))), (21, .cv (.val (.int .i64 (a_.graph.Edges.length : Int)))), (22, .cv (.val (.int .i64 v)))], h.on []⟩) (fun xX : UInt8 => darray_Array_Save.k3 out1 v xs xX) (fun xX s' hr ht => ?_) ?_
        · obtain ⟨final, rfl⟩ : ∃ z, z = xX := ⟨xX, rfl⟩
          dsimp only [darray_Array_Save.k3] at hr ht
          refine (w_nT ht ?_)
          refine w_seq ?_
          refine w_ops rfl ?_
          obtain ⟨nF9, hr⟩ := hr.room
          refine w_upto 6 rfl (by simp (disch := (apply Apart.mk; decide)) only [go_sem, Nat.reduceAdd, Nat.reduceLT, Nat.reduceMul, Nat.reduceLeDiff, Int.reduceToNat, Int.reduceLT, Int.reduceLE, ha0, on_atB hl0, lt_add hl0, lt_at hl0, nF9]; rfl) ?_
          obtain ⟨r1, eF10, hr⟩ := hr.bind
          refine w_call' (out := ?o_eF10) (hp := ?p_eF10) rfl (by simp (disch := (apply Apart.mk; decide)) only [go_sem, Nat.reduceAdd, Nat.reduceLT, Nat.reduceMul, Nat.reduceLeDiff, Int.reduceToNat, Int.reduceLT, Int.reduceLE, ha0, on_atB hl0, lt_add hl0, lt_at hl0, Option.getD_some, nF9]; rfl) (by simp (disch := (apply Apart.mk; decide)) only [go_sem, Nat.reduceAdd, Nat.reduceLT, Nat.reduceMul, Nat.reduceLeDiff, Int.reduceToNat, Int.reduceLT, Int.reduceLE, ha0, on_atB hl0, lt_add hl0, lt_at hl0, Option.getD_some, nF9]; rfl) (by simp (disch := (apply Apart.mk; decide)) only [go_sem, Nat.reduceAdd, Nat.reduceLT, Nat.reduceMul, Nat.reduceLeDiff, Int.reduceToNat, Int.reduceLT, Int.reduceLE, ha0, on_atB hl0, lt_add hl0, lt_at hl0, Option.getD_some, nF9]; rfl) ?c_eF10 ?d_eF10 ?_
          case c_eF10 => exact packed_Number_runs (xs.length : Int) eF10
          case d_eF10 => rfl
          obtain ⟨nF11, hr⟩ := hr.room
          refine w_ops_end (by simp (disch := (apply Apart.mk; decide)) only [go_sem, Nat.reduceAdd, Nat.reduceLT, Nat.reduceMul, Nat.reduceLeDiff, Int.reduceToNat, Int.reduceLT, Int.reduceLE, ha0, on_atB hl0, lt_add hl0, lt_at hl0, nF9, nF11]; rfl) ?_
          refine (w_n ?_)
          refine w_seq ?_
          refine w_region rfl (by simp (disch := (apply Apart.mk; decide)) only [go_sem, Nat.reduceAdd, Nat.reduceLT, Nat.reduceMul, Nat.reduceLeDiff, Int.reduceToNat, Int.reduceLT, Int.reduceLE, ha0, on_atB hl0, lt_add hl0, lt_at hl0, cF2]; rfl) ?_
          refine (w_n ?_)
          refine w_block ?_
          refine w_Loop (fun xX : (List UInt8 × Int) => ⟨[(0, .cv (.val (.ptr (some (l0, 0))))), (3, .cv (.row 5 (List.map eU xX.1))), (20, .cv (.val (.sl (List.map (eL eEdge) a_.graph.Edges)))), (21, .cv (.val (.int .i64 (a_.graph.Edges.length : Int)))), (22, .cv (.val (.int .i64 v))), (43, .cv (.val (.sl (List.map eEdge xs)))), (44, .cv (.val (.int .i64 (xs.length : Int)))), (45, .cv (.val (.int .i64 xX.2)))], h.on []⟩) hr (To.cut hwf (Nat.le_refl _) (by first | rfl | (simp (disch := (apply Apart.mk; decide)) only [go_sem, Nat.reduceAdd, Nat.reduceLT, Nat.reduceMul, Nat.reduceLeDiff, Int.reduceToNat, Int.reduceLT, Int.reduceLE, ha0, on_atB hl0, lt_add hl0, lt_at hl0, cF2]; rfl)) (by simp (disch := (apply Apart.mk; decide)) only [go_sem, Nat.reduceAdd, Nat.reduceLT, Nat.reduceMul, Nat.reduceLeDiff, Int.reduceToNat, Int.reduceLT, Int.reduceLE, ha0, on_atB hl0, lt_add hl0, lt_at hl0, cF2])) (fun W2 xX hr => ?_)
          obtain ⟨out3, v1⟩ := xX
          dsimp only [darray_Array_Save.b2] at hr
          refine w_seq ?_
          refine w_region rfl (by simp (disch := (apply Apart.mk; decide)) only [go_sem, Nat.reduceAdd, Nat.reduceLT, Nat.reduceMul, Nat.reduceLeDiff, Int.reduceToNat, Int.reduceLT, Int.reduceLE, ha0, on_atB hl0, lt_add hl0, lt_at hl0, cF2]; rfl) ?_
          refine (w_n ?_)
          refine w_seq ?_
          refine w_condH (by simp (disch := (apply Apart.mk; decide)) only [go_sem, Nat.reduceAdd, Nat.reduceLT, Nat.reduceMul, Nat.reduceLeDiff, Int.reduceToNat, Int.reduceLT, Int.reduceLE, ha0, on_atB hl0, lt_add hl0, lt_at hl0, cF2]) hr (fun cF12 hr => ?_) (fun cF12 hr => ?_)
          · refine w_skip ?_
            refine (w_n ?_)
            refine w_seq ?_
            refine w_block ?_
            refine w_seq ?_
            obtain ⟨x, nF13, eF14, gF15, hr⟩ := hr.idx
            refine w_region rfl (by simp (disch := (apply Apart.mk; decide)) only [go_sem, Nat.reduceAdd, Nat.reduceLT, Nat.reduceMul, Nat.reduceLeDiff, Int.reduceToNat, Int.reduceLT, Int.reduceLE, ha0, on_atB hl0, lt_add hl0, lt_at hl0, nF13, eF14, gF15, cF2, cF12]; rfl) ?_
            refine (w_n ?_)
            refine w_drawn [0, 1, 2, 3, 5, 6, 4, 7, 8, 9] (by rfl) ?_
            obtain ⟨nF16, hr⟩ := hr.room
            refine p_run (l := [0, 1, 2, 3, 5, 6]) (pend' := [6, 5, 3, 2, 1, 0]) (by simp (disch := (apply Apart.mk; decide)) only [go_sem, Nat.reduceAdd, Nat.reduceLT, Nat.reduceMul, Nat.reduceLeDiff, Int.reduceToNat, Int.reduceLT, Int.reduceLE, ha0, on_atB hl0, lt_add hl0, lt_at hl0, nF16]; rfl) rfl ?_
            refine p_op (pend' := [6, 5]) rfl (by simp (disch := (apply Apart.mk; decide)) only [go_sem, Nat.reduceAdd, Nat.reduceLT, Nat.reduceMul, Nat.reduceLeDiff, Int.reduceToNat, Int.reduceLT, Int.reduceLE, ha0, on_atB hl0, lt_add hl0, lt_at hl0, nF16]) (by simp (disch := (apply Apart.mk; decide)) only [go_sem, Nat.reduceAdd, Nat.reduceLT, Nat.reduceMul, Nat.reduceLeDiff, Int.reduceToNat, Int.reduceLT, Int.reduceLE, ha0, on_atB hl0, lt_add hl0, lt_at hl0, nF16]; rfl) (by rfl) ?_
            obtain ⟨r2, eF17, hr⟩ := hr.bind
            refine p_call (out := ?o_eF17) (hp := ?p_eF17) (pend' := []) rfl (by simp (disch := (apply Apart.mk; decide)) only [go_sem, Nat.reduceAdd, Nat.reduceLT, Nat.reduceMul, Nat.reduceLeDiff, Int.reduceToNat, Int.reduceLT, Int.reduceLE, ha0, on_atB hl0, lt_add hl0, lt_at hl0, Option.getD_some, nF16]) rfl (by simp (disch := (apply Apart.mk; decide)) only [go_sem, Nat.reduceAdd, Nat.reduceLT, Nat.reduceMul, Nat.reduceLeDiff, Int.reduceToNat, Int.reduceLT, Int.reduceLE, ha0, on_atB hl0, lt_add hl0, lt_at hl0, Option.getD_some, nF16]; rfl) (by simp (disch := (apply Apart.mk; decide)) only [go_sem, Nat.reduceAdd, Nat.reduceLT, Nat.reduceMul, Nat.reduceLeDiff, Int.reduceToNat, Int.reduceLT, Int.reduceLE, ha0, on_atB hl0, lt_add hl0, lt_at hl0, Option.getD_some, nF16]; rfl) (by simp (disch := (apply Apart.mk; decide)) only [go_sem, Nat.reduceAdd, Nat.reduceLT, Nat.reduceMul, Nat.reduceLeDiff, Int.reduceToNat, Int.reduceLT, Int.reduceLE, ha0, on_atB hl0, lt_add hl0, lt_at hl0, Option.getD_some, nF16]; rfl) (by rfl) ?c_eF17 ?d_eF17 ?_
            case c_eF17 => exact packed_Number_runs x.To eF17
            case d_eF17 => rfl
            obtain ⟨nF18, hr⟩ := hr.room
            refine p_op (pend' := []) rfl (by simp (disch := (apply Apart.mk; decide)) only [go_sem, Nat.reduceAdd, Nat.reduceLT, Nat.reduceMul, Nat.reduceLeDiff, Int.reduceToNat, Int.reduceLT, Int.reduceLE, ha0, on_atB hl0, lt_add hl0, lt_at hl0, nF16, nF18]) (by simp (disch := (apply Apart.mk; decide)) only [go_sem, Nat.reduceAdd, Nat.reduceLT, Nat.reduceMul, Nat.reduceLeDiff, Int.reduceToNat, Int.reduceLT, Int.reduceLE, ha0, on_atB hl0, lt_add hl0, lt_at hl0, nF16, nF18]; rfl) (by rfl) ?_
            refine p_op (pend' := []) rfl (by simp (disch := (apply Apart.mk; decide)) only [go_sem, Nat.reduceAdd, Nat.reduceLT, Nat.reduceMul, Nat.reduceLeDiff, Int.reduceToNat, Int.reduceLT, Int.reduceLE, ha0, on_atB hl0, lt_add hl0, lt_at hl0, nF16, nF18]) (by simp (disch := (apply Apart.mk; decide)) only [go_sem, Nat.reduceAdd, Nat.reduceLT, Nat.reduceMul, Nat.reduceLeDiff, Int.reduceToNat, Int.reduceLT, Int.reduceLE, ha0, on_atB hl0, lt_add hl0, lt_at hl0, nF16, nF18]; rfl) (by rfl) ?_
            refine p_end (by simp (disch := (apply Apart.mk; decide)) only [go_sem, Nat.reduceAdd, Nat.reduceLT, Nat.reduceMul, Nat.reduceLeDiff, Int.reduceToNat, Int.reduceLT, Int.reduceLE, ha0, on_atB hl0, lt_add hl0, lt_at hl0, nF16, nF18]) ?_
            refine (w_bn (w_n ?_))
            refine w_region rfl (by simp (disch := (apply Apart.mk; decide)) only [go_sem, Nat.reduceAdd, Nat.reduceLT, Nat.reduceMul, Nat.reduceLeDiff, Int.reduceToNat, Int.reduceLT, Int.reduceLE, ha0, on_atB hl0, lt_add hl0, lt_at hl0, cF2, cF12]; rfl) ?_
            exact (w_k ⟨(((out3 ++ ([x.Label])) ++ r2), (IntKind.i64.wrap (v1 + (1 : Int)))), hr, (To.cut hwf (Nat.le_refl _) (by first | rfl | (simp (disch := (apply Apart.mk; decide)) only [go_sem, Nat.reduceAdd, Nat.reduceLT, Nat.reduceMul, Nat.reduceLeDiff, Int.reduceToNat, Int.reduceLT, Int.reduceLE, ha0, on_atB hl0, lt_add hl0, lt_at hl0, cF2, cF12]; rfl)) (by simp (disch := (apply Apart.mk; decide)) only [go_sem, Nat.reduceAdd, Nat.reduceLT, Nat.reduceMul, Nat.reduceLeDiff, Int.reduceToNat, Int.reduceLT, Int.reduceLE, ha0, on_atB hl0, lt_add hl0, lt_at hl0, cF2, cF12]))⟩)
          · refine w_exit ?_
            exact (w_te (w_te (w_bx (w_bn (w_k ⟨out3, (hr).map, (To.cut hwf (Nat.le_refl _) (by first | rfl | (simp (disch := (apply Apart.mk; decide)) only [go_sem, Nat.reduceAdd, Nat.reduceLT, Nat.reduceMul, Nat.reduceLeDiff, Int.reduceToNat, Int.reduceLT, Int.reduceLE, ha0, on_atB hl0, lt_add hl0, lt_at hl0, cF2, cF12]; rfl)) (by simp (disch := (apply Apart.mk; decide)) only [go_sem, Nat.reduceAdd, Nat.reduceLT, Nat.reduceMul, Nat.reduceLeDiff, Int.reduceToNat, Int.reduceLT, Int.reduceLE, ha0, on_atB hl0, lt_add hl0, lt_at hl0, cF2, cF12]))⟩)))))
        · refine w_condH (by simp (disch := (apply Apart.mk; decide)) only [go_sem, Nat.reduceAdd, Nat.reduceLT, Nat.reduceMul, Nat.reduceLeDiff, Int.reduceToNat, Int.reduceLT, Int.reduceLE, ha0, on_atB hl0, lt_add hl0, lt_at hl0, cF2]) hr (fun cF19 hr => ?_) (fun cF19 hr => ?_)
          · refine w_region rfl (by simp (disch := (apply Apart.mk; decide)) only [go_sem, Nat.reduceAdd, Nat.reduceLT, Nat.reduceMul, Nat.reduceLeDiff, Int.reduceToNat, Int.reduceLT, Int.reduceLE, ha0, on_atB hl0, lt_add hl0, lt_at hl0, cF2, cF19]; rfl) ?_
            exact (w_k ⟨(u8 (1 : Int)), hr, (To.cut hwf (Nat.le_refl _) (by first | rfl | (simp (disch := (apply Apart.mk; decide)) only [go_sem, Nat.reduceAdd, Nat.reduceLT, Nat.reduceMul, Nat.reduceLeDiff, Int.reduceToNat, Int.reduceLT, Int.reduceLE, ha0, on_atB hl0, lt_add hl0, lt_at hl0, cF2, cF19]; rfl)) (by simp (disch := (apply Apart.mk; decide)) only [go_sem, Nat.reduceAdd, Nat.reduceLT, Nat.reduceMul, Nat.reduceLeDiff, Int.reduceToNat, Int.reduceLT, Int.reduceLE, ha0, on_atB hl0, lt_add hl0, lt_at hl0, cF2, cF19]))⟩)
          · refine w_skip ?_
            exact (w_k ⟨(u8 (0 : Int)), hr, (To.cut hwf (Nat.le_refl _) (by first | rfl | (simp (disch := (apply Apart.mk; decide)) only [go_sem, Nat.reduceAdd, Nat.reduceLT, Nat.reduceMul, Nat.reduceLeDiff, Int.reduceToNat, Int.reduceLT, Int.reduceLE, ha0, on_atB hl0, lt_add hl0, lt_at hl0, cF2, cF19]; rfl)) (by simp (disch := (apply Apart.mk; decide)) only [go_sem, Nat.reduceAdd, Nat.reduceLT, Nat.reduceMul, Nat.reduceLeDiff, Int.reduceToNat, Int.reduceLT, Int.reduceLE, ha0, on_atB hl0, lt_add hl0, lt_at hl0, cF2, cF19]))⟩)
    · refine w_exit ?_
      exact (w_te (w_te (w_bx (w_k ⟨out1, (hr).map, (To.cut hwf (Nat.le_refl _) (by first | rfl | (simp (disch := (apply Apart.mk; decide)) only [go_sem, Nat.reduceAdd, Nat.reduceLT, Nat.reduceMul, Nat.reduceLeDiff, Int.reduceToNat, Int.reduceLT, Int.reduceLE, ha0, on_atB hl0, lt_add hl0, lt_at hl0, cF2]; rfl)) (by simp (disch := (apply Apart.mk; decide)) only [go_sem, Nat.reduceAdd, Nat.reduceLT, Nat.reduceMul, Nat.reduceLeDiff, Int.reduceToNat, Int.reduceLT, Int.reduceLE, ha0, on_atB hl0, lt_add hl0, lt_at hl0, cF2]))⟩))))
end Go.Val

/- part GW65 -/
/- (*scansion/darray.reader).byte runs as it is read off. -/
namespace Go.Val
set_option linter.unusedVariables false
set_option linter.unusedSimpArgs false
set_option maxRecDepth 20000
open Go.Proofs
theorem darray_reader_byte_runs (r : Tdarray_reader) (l0 : Nat) {h : Heap} (ha0 : h.at_ l0 = some (.cells [.val (.sl (List.map eU r.rest_)), .val (.bool r.fault)])) {a : (UInt8 × Tdarray_reader)} (e : darray_reader_byte r = some a) :
    Runs CT 65 [.cv (.val (.ptr (some (l0, 0))))] h fun o h' => o = [.cv (.val (.int .u8 (a.1.toNat : Int)))] ∧ h' = (h.upd l0 (.cells [.val (.sl (List.map eU a.2.rest_)), .val (.bool a.2.fault)])) := by
  refine Runs.start Try.f65 _ Try.func65 rfl (by rw [Try.ntmps65]; simp) (by rfl) (by rfl) (fun hwf hu => ?_)
  have hl0 := (hwf _ _ ha0).1
  obtain ⟨D, hD, hr⟩ : ∃ D : (UInt8 × Tdarray_reader) → Prop, (∀ z, D z → z = a) ∧ Holds (darray_reader_byte r) D := ⟨fun z => z = a, fun _ h => h, Holds.intro e rfl⟩
  dsimp only [darray_reader_byte] at hr
  change wpCode _ _ _ _ _ ⟨[(0, .cv (.val (.ptr (some (l0, 0)))))], h.on []⟩
  refine w_seq ?_
  refine w_region rfl (by simp (disch := (apply Apart.mk; decide)) only [go_sem, Nat.reduceAdd, Nat.reduceLT, Nat.reduceMul, Nat.reduceLeDiff, Int.reduceToNat, Int.reduceLT, Int.reduceLE, ha0, on_atB hl0, lt_add hl0, lt_at hl0, on_updB hl0, on_atU hl0, on_updU hl0, upd_same ha0]; rfl) ?_
  refine (w_n ?_)
  refine w_seq ?_
  obtain ⟨fault, vF2, hr⟩ := hr.bind
  refine w_joinR (sj := ⟨[(0, .cv (.val (.ptr (some (l0, 0)))))], (h.upd l0 (.cells [.val (.sl (List.map eU r.rest_)), .val (.bool fault)])).on []⟩) (w_ops rfl ?_) ?_
  · have hr := Holds.intro (D := fun z => z = fault) vF2 rfl
    refine w_upto 6 rfl (by simp (disch := (apply Apart.mk; decide)) only [go_sem, Nat.reduceAdd, Nat.reduceLT, Nat.reduceMul, Nat.reduceLeDiff, Int.reduceToNat, Int.reduceLT, Int.reduceLE, ha0, on_atB hl0, lt_add hl0, lt_at hl0, on_updB hl0, on_atU hl0, on_updU hl0, upd_same ha0]; rfl) ?_
    rcases hr.ite with ⟨cF1, hr⟩ | ⟨cF1, hr⟩
    · refine w_ops_end (by simp (disch := (apply Apart.mk; decide)) only [go_sem, Nat.reduceAdd, Nat.reduceLT, Nat.reduceMul, Nat.reduceLeDiff, Int.reduceToNat, Int.reduceLT, Int.reduceLE, ha0, on_atB hl0, lt_add hl0, lt_at hl0, on_updB hl0, on_atU hl0, on_updU hl0, upd_same ha0, cF1]; rfl) ?_
      obtain rfl : _ = fault := hr
      exact w_k (To.cut (h := (h.upd l0 (.cells [.val (.sl (List.map eU r.rest_)), .val (.bool true)]))) (WF.upd hwf hl0 (by simp (disch := (apply Apart.mk; decide)) only [go_sem, Nat.reduceAdd, Nat.reduceLT, Nat.reduceMul, Nat.reduceLeDiff, Int.reduceToNat, Int.reduceLT, Int.reduceLE, ha0, on_atB hl0, lt_add hl0, lt_at hl0, on_updB hl0, on_atU hl0, on_updU hl0, upd_same ha0])) (Nat.le_refl _) (by first | rfl | (simp (disch := (apply Apart.mk; decide)) only [go_sem, Nat.reduceAdd, Nat.reduceLT, Nat.reduceMul, Nat.reduceLeDiff, Int.reduceToNat, Int.reduceLT, Int.reduceLE, ha0, on_atB hl0, lt_add hl0, lt_at hl0, on_updB hl0, on_atU hl0, on_updU hl0, upd_same ha0, cF1]; rfl)) (by simp (disch := (apply Apart.mk; decide)) only [go_sem, Nat.reduceAdd, Nat.reduceLT, Nat.reduceMul, Nat.reduceLeDiff, Int.reduceToNat, Int.reduceLT, Int.reduceLE, ha0, on_atB hl0, lt_add hl0, lt_at hl0, on_updB hl0, on_atU hl0, on_updU hl0, upd_same ha0, cF1]))
    · refine w_ops_end (by simp (disch := (apply Apart.mk; decide)) only [go_sem, Nat.reduceAdd, Nat.reduceLT, Nat.reduceMul, Nat.reduceLeDiff, Int.reduceToNat, Int.reduceLT, Int.reduceLE, ha0, on_atB hl0, lt_add hl0, lt_at hl0, on_updB hl0, on_atU hl0, on_updU hl0, upd_same ha0, cF1]; rfl) ?_
      obtain rfl : _ = fault := hr
      exact w_k (To.cut (h := (h.upd l0 (.cells [.val (.sl (List.map eU r.rest_)), .val (.bool ((r.rest_.length : Int) == (0 : Int)))]))) (WF.upd hwf hl0 (by simp (disch := (apply Apart.mk; decide)) only [go_sem, Nat.reduceAdd, Nat.reduceLT, Nat.reduceMul, Nat.reduceLeDiff, Int.reduceToNat, Int.reduceLT, Int.reduceLE, ha0, on_atB hl0, lt_add hl0, lt_at hl0, on_updB hl0, on_atU hl0, on_updU hl0, upd_same ha0])) (Nat.le_refl _) (by first | rfl | (simp (disch := (apply Apart.mk; decide)) only [go_sem, Nat.reduceAdd, Nat.reduceLT, Nat.reduceMul, Nat.reduceLeDiff, Int.reduceToNat, Int.reduceLT, Int.reduceLE, ha0, on_atB hl0, lt_add hl0, lt_at hl0, on_updB hl0, on_atU hl0, on_updU hl0, upd_same ha0, cF1]; rfl)) (by simp (disch := (apply Apart.mk; decide)) only [go_sem, Nat.reduceAdd, Nat.reduceLT, Nat.reduceMul, Nat.reduceLeDiff, Int.reduceToNat, Int.reduceLT, Int.reduceLE, ha0, on_atB hl0, lt_add hl0, lt_at hl0, on_updB hl0, on_atU hl0, on_updU hl0, upd_same ha0, cF1]))
  refine w_seq ?_
  refine w_region rfl (by simp (disch := (apply Apart.mk; decide)) only [go_sem, Nat.reduceAdd, Nat.reduceLT, Nat.reduceMul, Nat.reduceLeDiff, Int.reduceToNat, Int.reduceLT, Int.reduceLE, ha0, on_atB hl0, lt_add hl0, lt_at hl0, on_updB hl0, on_atU hl0, on_updU hl0, upd_same ha0]; rfl) ?_
  refine (w_n ?_)
  refine w_condH (by simp (disch := (apply Apart.mk; decide)) only [go_sem, Nat.reduceAdd, Nat.reduceLT, Nat.reduceMul, Nat.reduceLeDiff, Int.reduceToNat, Int.reduceLT, Int.reduceLE, ha0, on_atB hl0, lt_add hl0, lt_at hl0, on_updB hl0, on_atU hl0, on_updU hl0, upd_same ha0]) hr (fun cF3 hr => ?_) (fun cF3 hr => ?_)
  · refine w_seq ?_
    refine w_region rfl (by simp (disch := (apply Apart.mk; decide)) only [go_sem, Nat.reduceAdd, Nat.reduceLT, Nat.reduceMul, Nat.reduceLeDiff, Int.reduceToNat, Int.reduceLT, Int.reduceLE, ha0, on_atB hl0, lt_add hl0, lt_at hl0, on_updB hl0, on_atU hl0, on_updU hl0, upd_same ha0, cF3]; rfl) ?_
    refine (w_n ?_)
    refine w_ret ?_
    obtain rfl := hD _ hr
    exact (w_tr (w_endR (To.cut (os' := []) (sl := [(2, .cv (.val (.int .u8 (0 : Int))))]) (h := (h.upd l0 (.cells [.val (.sl (List.map eU r.rest_)), .val (.bool fault)]))) (WF.upd hwf hl0 (by simp (disch := (apply Apart.mk; decide)) only [go_sem, Nat.reduceAdd, Nat.reduceLT, Nat.reduceMul, Nat.reduceLeDiff, Int.reduceToNat, Int.reduceLT, Int.reduceLE, ha0, on_atB hl0, lt_add hl0, lt_at hl0, on_updB hl0, on_atU hl0, on_updU hl0, upd_same ha0])) (Nat.le_refl _) (by first | rfl | (simp (disch := (apply Apart.mk; decide)) only [go_sem, Nat.reduceAdd, Nat.reduceLT, Nat.reduceMul, Nat.reduceLeDiff, Int.reduceToNat, Int.reduceLT, Int.reduceLE, ha0, on_atB hl0, lt_add hl0, lt_at hl0, on_updB hl0, on_atU hl0, on_updU hl0, upd_same ha0, cF3]; rfl)) (by simp (disch := (apply Apart.mk; decide)) only [go_sem, Nat.reduceAdd, Nat.reduceLT, Nat.reduceMul, Nat.reduceLeDiff, Int.reduceToNat, Int.reduceLT, Int.reduceLE, ha0, on_atB hl0, lt_add hl0, lt_at hl0, on_updB hl0, on_atU hl0, on_updU hl0, upd_same ha0, cF3])) (by simp (disch := (apply Apart.mk; decide)) only [go_sem, Nat.reduceAdd, Nat.reduceLT, Nat.reduceMul, Nat.reduceLeDiff, Int.reduceToNat, Int.reduceLT, Int.reduceLE, ha0, on_atB hl0, lt_add hl0, lt_at hl0, on_updB hl0, on_atU hl0, on_updU hl0, upd_same ha0, Try.results65, results_data CT_gives65, resCell, resVal.eq_2, loadOp_sv, cF3]) ⟨rfl, on_nil (h := (h.upd l0 (.cells [.val (.sl (List.map eU r.rest_)), .val (.bool fault)]))) (WF.upd hwf hl0 (by simp (disch := (apply Apart.mk; decide)) only [go_sem, Nat.reduceAdd, Nat.reduceLT, Nat.reduceMul, Nat.reduceLeDiff, Int.reduceToNat, Int.reduceLT, Int.reduceLE, ha0, on_atB hl0, lt_add hl0, lt_at hl0, on_updB hl0, on_atU hl0, on_updU hl0, upd_same ha0]))⟩))
  · refine w_skip ?_
    refine (w_n ?_)
    refine w_seq ?_
    obtain ⟨n, eF4, gF5, hr⟩ := hr.idxK
    refine w_region rfl (by simp (disch := (apply Apart.mk; decide)) only [go_sem, Nat.reduceAdd, Nat.reduceLT, Nat.reduceMul, Nat.reduceLeDiff, Int.reduceToNat, Int.reduceLT, Int.reduceLE, ha0, on_atB hl0, lt_add hl0, lt_at hl0, on_updB hl0, on_atU hl0, on_updU hl0, upd_same ha0, eF4, gF5, cF3]; rfl) ?_
    refine (w_n ?_)
    refine w_seq ?_
    obtain ⟨nF6, nF7, hr⟩ := hr.cutL
    refine w_region rfl (by simp (disch := (apply Apart.mk; decide)) only [go_sem, Nat.reduceAdd, Nat.reduceLT, Nat.reduceMul, Nat.reduceLeDiff, Int.reduceToNat, Int.reduceLT, Int.reduceLE, ha0, on_atB hl0, lt_add hl0, lt_at hl0, on_updB hl0, on_atU hl0, on_updU hl0, upd_same ha0, nF6, nF7, cF3]; rfl) ?_
    refine (w_n ?_)
    refine w_seq ?_
    refine w_region rfl (by simp (disch := (apply Apart.mk; decide)) only [go_sem, Nat.reduceAdd, Nat.reduceLT, Nat.reduceMul, Nat.reduceLeDiff, Int.reduceToNat, Int.reduceLT, Int.reduceLE, ha0, on_atB hl0, lt_add hl0, lt_at hl0, on_updB hl0, on_atU hl0, on_updU hl0, upd_same ha0, cF3]; rfl) ?_
    refine (w_n ?_)
    refine w_ret ?_
    obtain rfl := hD _ hr
    exact (w_endR (To.cut (os' := []) (sl := [(2, .cv (.val (.int .u8 (n.toNat : Int))))]) (h := (h.upd l0 (.cells [.val (.sl (List.map eU (List.drop (Int.toNat (1 : Int)) r.rest_))), .val (.bool fault)]))) (WF.upd hwf hl0 (by simp (disch := (apply Apart.mk; decide)) only [go_sem, Nat.reduceAdd, Nat.reduceLT, Nat.reduceMul, Nat.reduceLeDiff, Int.reduceToNat, Int.reduceLT, Int.reduceLE, ha0, on_atB hl0, lt_add hl0, lt_at hl0, on_updB hl0, on_atU hl0, on_updU hl0, upd_same ha0])) (Nat.le_refl _) (by first | rfl | (simp (disch := (apply Apart.mk; decide)) only [go_sem, Nat.reduceAdd, Nat.reduceLT, Nat.reduceMul, Nat.reduceLeDiff, Int.reduceToNat, Int.reduceLT, Int.reduceLE, ha0, on_atB hl0, lt_add hl0, lt_at hl0, on_updB hl0, on_atU hl0, on_updU hl0, upd_same ha0, cF3]; rfl)) (by simp (disch := (apply Apart.mk; decide)) only [go_sem, Nat.reduceAdd, Nat.reduceLT, Nat.reduceMul, Nat.reduceLeDiff, Int.reduceToNat, Int.reduceLT, Int.reduceLE, ha0, on_atB hl0, lt_add hl0, lt_at hl0, on_updB hl0, on_atU hl0, on_updU hl0, upd_same ha0, cF3])) (by simp (disch := (apply Apart.mk; decide)) only [go_sem, Nat.reduceAdd, Nat.reduceLT, Nat.reduceMul, Nat.reduceLeDiff, Int.reduceToNat, Int.reduceLT, Int.reduceLE, ha0, on_atB hl0, lt_add hl0, lt_at hl0, on_updB hl0, on_atU hl0, on_updU hl0, upd_same ha0, Try.results65, results_data CT_gives65, resCell, resVal.eq_2, loadOp_sv, cF3]) ⟨rfl, on_nil (h := (h.upd l0 (.cells [.val (.sl (List.map eU (List.drop (Int.toNat (1 : Int)) r.rest_))), .val (.bool fault)]))) (WF.upd hwf hl0 (by simp (disch := (apply Apart.mk; decide)) only [go_sem, Nat.reduceAdd, Nat.reduceLT, Nat.reduceMul, Nat.reduceLeDiff, Int.reduceToNat, Int.reduceLT, Int.reduceLE, ha0, on_atB hl0, lt_add hl0, lt_at hl0, on_updB hl0, on_atU hl0, on_updU hl0, upd_same ha0]))⟩)
end Go.Val

/- part GW81 -/
/- scansion/packed.Told runs as it is read off. -/
namespace Go.Val
set_option linter.unusedVariables false
set_option linter.unusedSimpArgs false
set_option maxRecDepth 20000
open Go.Proofs
theorem packed_Told_runs (b : List UInt8) {h : Heap} {a : (Int × Int × Int)} (e : packed_Told b = some a) :
    Runs CT 81 [.cv (.val (.sl (List.map eU b)))] h fun o h' => o = [.cv (.val (.int .i64 a.1)), .cv (.val (.int .i64 a.2.1)), .cv (.val (.int .i64 a.2.2))] ∧ h' = h := by
  refine Runs.start Try.f81 _ Try.func81 rfl (by rw [Try.ntmps81]; simp) (by rfl) (by rfl) (fun hwf hu => ?_)
  obtain ⟨D, hD, hr⟩ : ∃ D : (Int × Int × Int) → Prop, (∀ z, D z → z = a) ∧ Holds (packed_Told b) D := ⟨fun z => z = a, fun _ h => h, Holds.intro e rfl⟩
  dsimp only [packed_Told] at hr
  change wpCode _ _ _ _ _ ⟨[(0, .cv (.val (.sl (List.map eU b))))], h.on []⟩
  refine w_seq ?_
  refine w_region rfl (by simp (disch := (apply Apart.mk; decide)) only [go_sem, Nat.reduceAdd, Nat.reduceLT, Nat.reduceMul, Nat.reduceLeDiff, Int.reduceToNat, Int.reduceLT, Int.reduceLE]; rfl) ?_
  refine (w_n ?_)
  refine w_seq ?_
  refine w_region rfl (by simp (disch := (apply Apart.mk; decide)) only [go_sem, Nat.reduceAdd, Nat.reduceLT, Nat.reduceMul, Nat.reduceLeDiff, Int.reduceToNat, Int.reduceLT, Int.reduceLE]; rfl) ?_
  refine (w_n ?_)
  refine w_seq ?_
  refine w_seq ?_
  refine w_region rfl (by simp (disch := (apply Apart.mk; decide)) only [go_sem, Nat.reduceAdd, Nat.reduceLT, Nat.reduceMul, Nat.reduceLeDiff, Int.reduceToNat, Int.reduceLT, Int.reduceLE]; rfl) ?_
  refine (w_n ?_)
  refine w_K (D := D) (fun xX : Unit => ⟨[], h.on []⟩) (fun xX : Unit => packed_Told.k1) (fun xX s' hr ht => ?_) ?_
  · dsimp only [packed_Told.k1] at hr ht
    refine (w_nT ht ?_)
    refine w_seq ?_
    refine w_region rfl (by simp (disch := (apply Apart.mk; decide)) only [go_sem, Nat.reduceAdd, Nat.reduceLT, Nat.reduceMul, Nat.reduceLeDiff, Int.reduceToNat, Int.reduceLT, Int.reduceLE]; rfl) ?_
    refine (w_n ?_)
    refine w_ret ?_
    obtain rfl := hD _ hr
    exact (w_endR (To.cut (os' := []) (sl := [(2, .cv (.val (.int .i64 (0 : Int)))), (3, .cv (.val (.int .i64 (0 : Int)))), (4, .cv (.val (.int .i64 (2 : Int))))]) hwf (Nat.le_refl _) rfl (by simp (disch := (apply Apart.mk; decide)) only [go_sem, Nat.reduceAdd, Nat.reduceLT, Nat.reduceMul, Nat.reduceLeDiff, Int.reduceToNat, Int.reduceLT, Int.reduceLE])) (by simp (disch := (apply Apart.mk; decide)) only [go_sem, Nat.reduceAdd, Nat.reduceLT, Nat.reduceMul, Nat.reduceLeDiff, Int.reduceToNat, Int.reduceLT, Int.reduceLE, Try.results81, results_data CT_gives81, resCell, resVal.eq_2, loadOp_sv]) ⟨rfl, on_nil hwf⟩)
  · refine w_block ?_
    refine w_Loop (fun xX : (Int × Int) => ⟨[(0, .cv (.val (.sl (List.map eU b)))), (5, .cv (.val (.int .i64 xX.1))), (6, .cv (.val (.int .i64 xX.2)))], h.on []⟩) hr (To.cut hwf (Nat.le_refl _) rfl (by simp (disch := (apply Apart.mk; decide)) only [go_sem, Nat.reduceAdd, Nat.reduceLT, Nat.reduceMul, Nat.reduceLeDiff, Int.reduceToNat, Int.reduceLT, Int.reduceLE])) (fun W1 xX hr => ?_)
    obtain ⟨n, i⟩ := xX
    dsimp only [packed_Told.b1] at hr
    refine w_seq ?_
    refine w_seq ?_
    refine w_region rfl (by simp (disch := (apply Apart.mk; decide)) only [go_sem, Nat.reduceAdd, Nat.reduceLT, Nat.reduceMul, Nat.reduceLeDiff, Int.reduceToNat, Int.reduceLT, Int.reduceLE]; rfl) ?_
    refine (w_n ?_)
    refine w_condH (by simp (disch := (apply Apart.mk; decide)) only [go_sem, Nat.reduceAdd, Nat.reduceLT, Nat.reduceMul, Nat.reduceLeDiff, Int.reduceToNat, Int.reduceLT, Int.reduceLE]) hr (fun cF1 hr => ?_) (fun cF1 hr => ?_)
    · refine w_skip ?_
      refine (w_n ?_)
      refine w_seq ?_
      refine w_block ?_
      refine w_seq ?_
      obtain ⟨n1, nF2, eF3, gF4, hr⟩ := hr.idx
      (obtain ⟨z, eF5, hr⟩ := hr.bind; replace eF5 := Option.some.inj eF5; simp only [shL, shR, bAnd, bOr, bXor, bNot, IntKind.bits] at eF5)
      obtain ⟨nF6, nF7, hr⟩ := hr.nat
      (obtain ⟨z1, eF8, hr⟩ := hr.bind; replace eF8 := Option.some.inj eF8; simp only [shL, shR, bAnd, bOr, bXor, bNot, IntKind.bits] at eF8)
      (obtain ⟨z2, eF9, hr⟩ := hr.bind; replace eF9 := Option.some.inj eF9; simp only [shL, shR, bAnd, bOr, bXor, bNot, IntKind.bits] at eF9)
      refine w_region rfl (by simp (disch := (apply Apart.mk; decide)) only [go_sem, Nat.reduceAdd, Nat.reduceLT, Nat.reduceMul, Nat.reduceLeDiff, Int.reduceToNat, Int.reduceLT, Int.reduceLE, nF2, eF3, gF4, eF5, nF6, nF7, eF8, eF9, cF1]; rfl) ?_
      refine (w_n ?_)
      refine w_seq ?_
      refine w_region rfl (by simp (disch := (apply Apart.mk; decide)) only [go_sem, Nat.reduceAdd, Nat.reduceLT, Nat.reduceMul, Nat.reduceLeDiff, Int.reduceToNat, Int.reduceLT, Int.reduceLE, nF2, eF3, gF4, cF1]; rfl) ?_
      refine (w_n ?_)
      refine w_condH (by simp (disch := (apply Apart.mk; decide)) only [go_sem, Nat.reduceAdd, Nat.reduceLT, Nat.reduceMul, Nat.reduceLeDiff, Int.reduceToNat, Int.reduceLT, Int.reduceLE, cF1]) hr (fun cF10 hr => ?_) (fun cF10 hr => ?_)
      · refine w_seq ?_
        refine w_joinR (sj := ⟨[(5, .cv (.val (.int .i64 z2))), (6, .cv (.val (.int .i64 i))), (42, .cv (.val (.bool ((decide (z2 > (2147483647 : Int))) || ((decide (i > (0 : Int))) && ((n1.toNat : Int) == (0 : Int)))))))], h.on []⟩) (w_ops rfl ?_) ?_
        · refine w_upto 3 rfl (by simp (disch := (apply Apart.mk; decide)) only [go_sem, Nat.reduceAdd, Nat.reduceLT, Nat.reduceMul, Nat.reduceLeDiff, Int.reduceToNat, Int.reduceLT, Int.reduceLE]; rfl) ?_
          rcases Bool.eq_false_or_eq_true (decide (z2 > (2147483647 : Int))) with cF11 | cF11
          · refine w_ops_end (by simp (disch := (apply Apart.mk; decide)) only [go_sem, Nat.reduceAdd, Nat.reduceLT, Nat.reduceMul, Nat.reduceLeDiff, Int.reduceToNat, Int.reduceLT, Int.reduceLE, cF11]; rfl) ?_
            exact w_k (To.cut hwf (Nat.le_refl _) rfl (by simp (disch := (apply Apart.mk; decide)) only [go_sem, Nat.reduceAdd, Nat.reduceLT, Nat.reduceMul, Nat.reduceLeDiff, Int.reduceToNat, Int.reduceLT, Int.reduceLE, cF1, cF10, cF11]))
          · refine w_upto 3 rfl (by simp (disch := (apply Apart.mk; decide)) only [go_sem, Nat.reduceAdd, Nat.reduceLT, Nat.reduceMul, Nat.reduceLeDiff, Int.reduceToNat, Int.reduceLT, Int.reduceLE, cF11]; rfl) ?_
            rcases Bool.eq_false_or_eq_true (decide (i > (0 : Int))) with cF12 | cF12
            · refine w_ops_end (by simp (disch := (apply Apart.mk; decide)) only [go_sem, Nat.reduceAdd, Nat.reduceLT, Nat.reduceMul, Nat.reduceLeDiff, Int.reduceToNat, Int.reduceLT, Int.reduceLE, cF11, cF12, nF2, eF3, gF4]; rfl) ?_
              exact w_k (To.cut hwf (Nat.le_refl _) rfl (by simp (disch := (apply Apart.mk; decide)) only [go_sem, Nat.reduceAdd, Nat.reduceLT, Nat.reduceMul, Nat.reduceLeDiff, Int.reduceToNat, Int.reduceLT, Int.reduceLE, cF1, cF10, cF11, cF12]))
            · refine w_ops_end (by simp (disch := (apply Apart.mk; decide)) only [go_sem, Nat.reduceAdd, Nat.reduceLT, Nat.reduceMul, Nat.reduceLeDiff, Int.reduceToNat, Int.reduceLT, Int.reduceLE, cF11, cF12]; rfl) ?_
              exact w_k (To.cut hwf (Nat.le_refl _) rfl (by simp (disch := (apply Apart.mk; decide)) only [go_sem, Nat.reduceAdd, Nat.reduceLT, Nat.reduceMul, Nat.reduceLeDiff, Int.reduceToNat, Int.reduceLT, Int.reduceLE, cF1, cF10, cF11, cF12]))
        refine w_condH (by simp (disch := (apply Apart.mk; decide)) only [go_sem, Nat.reduceAdd, Nat.reduceLT, Nat.reduceMul, Nat.reduceLeDiff, Int.reduceToNat, Int.reduceLT, Int.reduceLE, cF1, cF10]) hr (fun cF13 hr => ?_) (fun cF13 hr => ?_)
        · refine w_exit ?_
          exact (w_te (w_bo (w_te (w_te (w_bx (w_k ⟨(), (hr).map, (To.cut hwf (Nat.le_refl _) rfl (by simp (disch := (apply Apart.mk; decide)) only [go_sem, Nat.reduceAdd, Nat.reduceLT, Nat.reduceMul, Nat.reduceLeDiff, Int.reduceToNat, Int.reduceLT, Int.reduceLE, cF1, cF10, cF13]))⟩)))) rfl))
        · refine w_skip ?_
          refine (w_n ?_)
          refine w_seq ?_
          refine w_region rfl (by simp (disch := (apply Apart.mk; decide)) only [go_sem, Nat.reduceAdd, Nat.reduceLT, Nat.reduceMul, Nat.reduceLeDiff, Int.reduceToNat, Int.reduceLT, Int.reduceLE, cF1, cF10, cF13]; rfl) ?_
          refine (w_n ?_)
          refine w_ret ?_
          obtain rfl := hD _ hr
          exact (w_br (w_tr (w_tr (w_br (w_tr (w_tr (w_endR (To.cut (os' := []) (sl := [(2, .cv (.val (.int .i64 z2))), (3, .cv (.val (.int .i64 (IntKind.i64.wrap (i + (1 : Int)))))), (4, .cv (.val (.int .i64 (0 : Int))))]) hwf (Nat.le_refl _) rfl (by simp (disch := (apply Apart.mk; decide)) only [go_sem, Nat.reduceAdd, Nat.reduceLT, Nat.reduceMul, Nat.reduceLeDiff, Int.reduceToNat, Int.reduceLT, Int.reduceLE, cF1, cF10, cF13])) (by simp (disch := (apply Apart.mk; decide)) only [go_sem, Nat.reduceAdd, Nat.reduceLT, Nat.reduceMul, Nat.reduceLeDiff, Int.reduceToNat, Int.reduceLT, Int.reduceLE, Try.results81, results_data CT_gives81, resCell, resVal.eq_2, loadOp_sv, cF1, cF10, cF13]) ⟨rfl, on_nil hwf⟩)))))))
      · refine w_skip ?_
        refine (w_bn (w_n ?_))
        refine w_region rfl (by simp (disch := (apply Apart.mk; decide)) only [go_sem, Nat.reduceAdd, Nat.reduceLT, Nat.reduceMul, Nat.reduceLeDiff, Int.reduceToNat, Int.reduceLT, Int.reduceLE, cF1, cF10]; rfl) ?_
        exact (w_k ⟨(z2, (IntKind.i64.wrap (i + (1 : Int)))), hr, (To.cut hwf (Nat.le_refl _) rfl (by simp (disch := (apply Apart.mk; decide)) only [go_sem, Nat.reduceAdd, Nat.reduceLT, Nat.reduceMul, Nat.reduceLeDiff, Int.reduceToNat, Int.reduceLT, Int.reduceLE, cF1, cF10]))⟩)
    · refine w_exit ?_
      exact (w_te (w_te (w_bx (w_k ⟨(), (hr).map, (To.cut hwf (Nat.le_refl _) rfl (by simp (disch := (apply Apart.mk; decide)) only [go_sem, Nat.reduceAdd, Nat.reduceLT, Nat.reduceMul, Nat.reduceLeDiff, Int.reduceToNat, Int.reduceLT, Int.reduceLE, cF1]))⟩))))
end Go.Val

/- part GW64 -/
/- (*scansion/darray.reader).number runs as it is read off. -/
namespace Go.Val
set_option linter.unusedVariables false
set_option linter.unusedSimpArgs false
set_option maxRecDepth 20000
open Go.Proofs
theorem darray_reader_number_runs (r : Tdarray_reader) (most : Int) (l0 : Nat) {h : Heap} (ha0 : h.at_ l0 = some (.cells [.val (.sl (List.map eU r.rest_)), .val (.bool r.fault)])) {a : (Int × Tdarray_reader)} (e : darray_reader_number r most = some a) :
    Runs CT 64 [.cv (.val (.ptr (some (l0, 0)))), .cv (.val (.int .i64 most))] h fun o h' => o = [.cv (.val (.int .i64 a.1))] ∧ h' = (h.upd l0 (.cells [.val (.sl (List.map eU a.2.rest_)), .val (.bool a.2.fault)])) := by
  refine Runs.start Try.f64 _ Try.func64 rfl (by rw [Try.ntmps64]; simp) (by rfl) (by rfl) (fun hwf hu => ?_)
  have hl0 := (hwf _ _ ha0).1
  obtain ⟨D, hD, hr⟩ : ∃ D : (Int × Tdarray_reader) → Prop, (∀ z, D z → z = a) ∧ Holds (darray_reader_number r most) D := ⟨fun z => z = a, fun _ h => h, Holds.intro e rfl⟩
  dsimp only [darray_reader_number] at hr
  change wpCode _ _ _ _ _ ⟨[(0, .cv (.val (.ptr (some (l0, 0))))), (1, .cv (.val (.int .i64 most)))], h.on []⟩
  refine w_seq ?_
  refine w_region rfl (by simp (disch := (apply Apart.mk; decide)) only [go_sem, Nat.reduceAdd, Nat.reduceLT, Nat.reduceMul, Nat.reduceLeDiff, Int.reduceToNat, Int.reduceLT, Int.reduceLE, ha0, on_atB hl0, lt_add hl0, lt_at hl0, on_updB hl0, on_atU hl0, on_updU hl0, upd_same ha0]; rfl) ?_
  refine (w_n ?_)
  refine w_seq ?_
  refine w_ops rfl ?_
  refine w_upto 4 rfl (by simp (disch := (apply Apart.mk; decide)) only [go_sem, Nat.reduceAdd, Nat.reduceLT, Nat.reduceMul, Nat.reduceLeDiff, Int.reduceToNat, Int.reduceLT, Int.reduceLE, ha0, on_atB hl0, lt_add hl0, lt_at hl0, on_updB hl0, on_atU hl0, on_updU hl0, upd_same ha0]; rfl) ?_
  obtain ⟨r1, eF1, hr⟩ := hr.bind
  refine w_call' (out := ?o_eF1) (hp := ?p_eF1) rfl (by simp (disch := (apply Apart.mk; decide)) only [go_sem, Nat.reduceAdd, Nat.reduceLT, Nat.reduceMul, Nat.reduceLeDiff, Int.reduceToNat, Int.reduceLT, Int.reduceLE, ha0, on_atB hl0, lt_add hl0, lt_at hl0, on_updB hl0, on_atU hl0, on_updU hl0, upd_same ha0, Option.getD_some]; rfl) (by simp (disch := (apply Apart.mk; decide)) only [go_sem, Nat.reduceAdd, Nat.reduceLT, Nat.reduceMul, Nat.reduceLeDiff, Int.reduceToNat, Int.reduceLT, Int.reduceLE, ha0, on_atB hl0, lt_add hl0, lt_at hl0, on_updB hl0, on_atU hl0, on_updU hl0, upd_same ha0, Option.getD_some]; rfl) (by simp (disch := (apply Apart.mk; decide)) only [go_sem, Nat.reduceAdd, Nat.reduceLT, Nat.reduceMul, Nat.reduceLeDiff, Int.reduceToNat, Int.reduceLT, Int.reduceLE, ha0, on_atB hl0, lt_add hl0, lt_at hl0, on_updB hl0, on_atU hl0, on_updU hl0, upd_same ha0, Option.getD_some]; rfl) ?c_eF1 ?d_eF1 ?_
  case c_eF1 => exact packed_Told_runs r.rest_ eF1
  case d_eF1 => rfl
  refine w_ops_end (by simp (disch := (apply Apart.mk; decide)) only [go_sem, Nat.reduceAdd, Nat.reduceLT, Nat.reduceMul, Nat.reduceLeDiff, Int.reduceToNat, Int.reduceLT, Int.reduceLE, ha0, on_atB hl0, lt_add hl0, lt_at hl0, on_updB hl0, on_atU hl0, on_updU hl0, upd_same ha0]; rfl) ?_
  refine (w_n ?_)
  refine w_seq ?_
  obtain ⟨fault, vF4, hr⟩ := hr.bind
  refine w_joinR (sj := ⟨[(0, .cv (.val (.ptr (some (l0, 0))))), (5, .cv (.val (.int .i64 r1.1))), (6, .cv (.val (.int .i64 r1.2.1)))], (h.upd l0 (.cells [.val (.sl (List.map eU r.rest_)), .val (.bool fault)])).on []⟩) (w_ops rfl ?_) ?_
  · have hr := Holds.intro (D := fun z => z = fault) vF4 rfl
    refine w_upto 6 rfl (by simp (disch := (apply Apart.mk; decide)) only [go_sem, Nat.reduceAdd, Nat.reduceLT, Nat.reduceMul, Nat.reduceLeDiff, Int.reduceToNat, Int.reduceLT, Int.reduceLE, ha0, on_atB hl0, lt_add hl0, lt_at hl0, on_updB hl0, on_atU hl0, on_updU hl0, upd_same ha0]; rfl) ?_
    rcases hr.ite with ⟨cF2, hr⟩ | ⟨cF2, hr⟩
    · refine w_ops_end (by simp (disch := (apply Apart.mk; decide)) only [go_sem, Nat.reduceAdd, Nat.reduceLT, Nat.reduceMul, Nat.reduceLeDiff, Int.reduceToNat, Int.reduceLT, Int.reduceLE, ha0, on_atB hl0, lt_add hl0, lt_at hl0, on_updB hl0, on_atU hl0, on_updU hl0, upd_same ha0, cF2]; rfl) ?_
      obtain rfl : _ = fault := hr
      exact w_k (To.cut (h := (h.upd l0 (.cells [.val (.sl (List.map eU r.rest_)), .val (.bool true)]))) (WF.upd hwf hl0 (by simp (disch := (apply Apart.mk; decide)) only [go_sem, Nat.reduceAdd, Nat.reduceLT, Nat.reduceMul, Nat.reduceLeDiff, Int.reduceToNat, Int.reduceLT, Int.reduceLE, ha0, on_atB hl0, lt_add hl0, lt_at hl0, on_updB hl0, on_atU hl0, on_updU hl0, upd_same ha0])) (Nat.le_refl _) (by first | rfl | (simp (disch := (apply Apart.mk; decide)) only [go_sem, Nat.reduceAdd, Nat.reduceLT, Nat.reduceMul, Nat.reduceLeDiff, Int.reduceToNat, Int.reduceLT, Int.reduceLE, ha0, on_atB hl0, lt_add hl0, lt_at hl0, on_updB hl0, on_atU hl0, on_updU hl0, upd_same ha0, cF2]; rfl)) (by simp (disch := (apply Apart.mk; decide)) only [go_sem, Nat.reduceAdd, Nat.reduceLT, Nat.reduceMul, Nat.reduceLeDiff, Int.reduceToNat, Int.reduceLT, Int.reduceLE, ha0, on_atB hl0, lt_add hl0, lt_at hl0, on_updB hl0, on_atU hl0, on_updU hl0, upd_same ha0, cF2]))
    · refine w_upto 4 rfl (by simp (disch := (apply Apart.mk; decide)) only [go_sem, Nat.reduceAdd, Nat.reduceLT, Nat.reduceMul, Nat.reduceLeDiff, Int.reduceToNat, Int.reduceLT, Int.reduceLE, ha0, on_atB hl0, lt_add hl0, lt_at hl0, on_updB hl0, on_atU hl0, on_updU hl0, upd_same ha0, cF2]; rfl) ?_
      rcases hr.ite with ⟨cF3, hr⟩ | ⟨cF3, hr⟩
      · refine w_ops_end (by simp (disch := (apply Apart.mk; decide)) only [go_sem, Nat.reduceAdd, Nat.reduceLT, Nat.reduceMul, Nat.reduceLeDiff, Int.reduceToNat, Int.reduceLT, Int.reduceLE, ha0, on_atB hl0, lt_add hl0, lt_at hl0, on_updB hl0, on_atU hl0, on_updU hl0, upd_same ha0, cF2, cF3]; rfl) ?_
        obtain rfl : _ = fault := hr
        exact w_k (To.cut (h := (h.upd l0 (.cells [.val (.sl (List.map eU r.rest_)), .val (.bool true)]))) (WF.upd hwf hl0 (by simp (disch := (apply Apart.mk; decide)) only [go_sem, Nat.reduceAdd, Nat.reduceLT, Nat.reduceMul, Nat.reduceLeDiff, Int.reduceToNat, Int.reduceLT, Int.reduceLE, ha0, on_atB hl0, lt_add hl0, lt_at hl0, on_updB hl0, on_atU hl0, on_updU hl0, upd_same ha0])) (Nat.le_refl _) (by first | rfl | (simp (disch := (apply Apart.mk; decide)) only [go_sem, Nat.reduceAdd, Nat.reduceLT, Nat.reduceMul, Nat.reduceLeDiff, Int.reduceToNat, Int.reduceLT, Int.reduceLE, ha0, on_atB hl0, lt_add hl0, lt_at hl0, on_updB hl0, on_atU hl0, on_updU hl0, upd_same ha0, cF2, cF3]; rfl)) (by simp (disch := (apply Apart.mk; decide)) only [go_sem, Nat.reduceAdd, Nat.reduceLT, Nat.reduceMul, Nat.reduceLeDiff, Int.reduceToNat, Int.reduceLT, Int.reduceLE, ha0, on_atB hl0, lt_add hl0, lt_at hl0, on_updB hl0, on_atU hl0, on_updU hl0, upd_same ha0, cF2, cF3]))
      · refine w_ops_end (by simp (disch := (apply Apart.mk; decide)) only [go_sem, Nat.reduceAdd, Nat.reduceLT, Nat.reduceMul, Nat.reduceLeDiff, Int.reduceToNat, Int.reduceLT, Int.reduceLE, ha0, on_atB hl0, lt_add hl0, lt_at hl0, on_updB hl0, on_atU hl0, on_updU hl0, upd_same ha0, cF2, cF3]; rfl) ?_
        obtain rfl : _ = fault := hr
        exact w_k (To.cut (h := (h.upd l0 (.cells [.val (.sl (List.map eU r.rest_)), .val (.bool (decide (r1.1 > most)))]))) (WF.upd hwf hl0 (by simp (disch := (apply Apart.mk; decide)) only [go_sem, Nat.reduceAdd, Nat.reduceLT, Nat.reduceMul, Nat.reduceLeDiff, Int.reduceToNat, Int.reduceLT, Int.reduceLE, ha0, on_atB hl0, lt_add hl0, lt_at hl0, on_updB hl0, on_atU hl0, on_updU hl0, upd_same ha0])) (Nat.le_refl _) (by first | rfl | (simp (disch := (apply Apart.mk; decide)) only [go_sem, Nat.reduceAdd, Nat.reduceLT, Nat.reduceMul, Nat.reduceLeDiff, Int.reduceToNat, Int.reduceLT, Int.reduceLE, ha0, on_atB hl0, lt_add hl0, lt_at hl0, on_updB hl0, on_atU hl0, on_updU hl0, upd_same ha0, cF2, cF3]; rfl)) (by simp (disch := (apply Apart.mk; decide)) only [go_sem, Nat.reduceAdd, Nat.reduceLT, Nat.reduceMul, Nat.reduceLeDiff, Int.reduceToNat, Int.reduceLT, Int.reduceLE, ha0, on_atB hl0, lt_add hl0, lt_at hl0, on_updB hl0, on_atU hl0, on_updU hl0, upd_same ha0, cF2, cF3]))
  refine w_seq ?_
  refine w_region rfl (by simp (disch := (apply Apart.mk; decide)) only [go_sem, Nat.reduceAdd, Nat.reduceLT, Nat.reduceMul, Nat.reduceLeDiff, Int.reduceToNat, Int.reduceLT, Int.reduceLE, ha0, on_atB hl0, lt_add hl0, lt_at hl0, on_updB hl0, on_atU hl0, on_updU hl0, upd_same ha0]; rfl) ?_
  refine (w_n ?_)
  refine w_condH (by simp (disch := (apply Apart.mk; decide)) only [go_sem, Nat.reduceAdd, Nat.reduceLT, Nat.reduceMul, Nat.reduceLeDiff, Int.reduceToNat, Int.reduceLT, Int.reduceLE, ha0, on_atB hl0, lt_add hl0, lt_at hl0, on_updB hl0, on_atU hl0, on_updU hl0, upd_same ha0]) hr (fun cF5 hr => ?_) (fun cF5 hr => ?_)
  · refine w_seq ?_
    refine w_region rfl (by simp (disch := (apply Apart.mk; decide)) only [go_sem, Nat.reduceAdd, Nat.reduceLT, Nat.reduceMul, Nat.reduceLeDiff, Int.reduceToNat, Int.reduceLT, Int.reduceLE, ha0, on_atB hl0, lt_add hl0, lt_at hl0, on_updB hl0, on_atU hl0, on_updU hl0, upd_same ha0, cF5]; rfl) ?_
    refine (w_n ?_)
    refine w_ret ?_
    obtain rfl := hD _ hr
    exact (w_tr (w_endR (To.cut (os' := []) (sl := [(4, .cv (.val (.int .i64 (0 : Int))))]) (h := (h.upd l0 (.cells [.val (.sl (List.map eU r.rest_)), .val (.bool fault)]))) (WF.upd hwf hl0 (by simp (disch := (apply Apart.mk; decide)) only [go_sem, Nat.reduceAdd, Nat.reduceLT, Nat.reduceMul, Nat.reduceLeDiff, Int.reduceToNat, Int.reduceLT, Int.reduceLE, ha0, on_atB hl0, lt_add hl0, lt_at hl0, on_updB hl0, on_atU hl0, on_updU hl0, upd_same ha0])) (Nat.le_refl _) (by first | rfl | (simp (disch := (apply Apart.mk; decide)) only [go_sem, Nat.reduceAdd, Nat.reduceLT, Nat.reduceMul, Nat.reduceLeDiff, Int.reduceToNat, Int.reduceLT, Int.reduceLE, ha0, on_atB hl0, lt_add hl0, lt_at hl0, on_updB hl0, on_atU hl0, on_updU hl0, upd_same ha0, cF5]; rfl)) (by simp (disch := (apply Apart.mk; decide)) only [go_sem, Nat.reduceAdd, Nat.reduceLT, Nat.reduceMul, Nat.reduceLeDiff, Int.reduceToNat, Int.reduceLT, Int.reduceLE, ha0, on_atB hl0, lt_add hl0, lt_at hl0, on_updB hl0, on_atU hl0, on_updU hl0, upd_same ha0, cF5])) (by simp (disch := (apply Apart.mk; decide)) only [go_sem, Nat.reduceAdd, Nat.reduceLT, Nat.reduceMul, Nat.reduceLeDiff, Int.reduceToNat, Int.reduceLT, Int.reduceLE, ha0, on_atB hl0, lt_add hl0, lt_at hl0, on_updB hl0, on_atU hl0, on_updU hl0, upd_same ha0, Try.results64, results_data CT_gives64, resCell, resVal.eq_2, loadOp_sv, cF5]) ⟨rfl, on_nil (h := (h.upd l0 (.cells [.val (.sl (List.map eU r.rest_)), .val (.bool fault)]))) (WF.upd hwf hl0 (by simp (disch := (apply Apart.mk; decide)) only [go_sem, Nat.reduceAdd, Nat.reduceLT, Nat.reduceMul, Nat.reduceLeDiff, Int.reduceToNat, Int.reduceLT, Int.reduceLE, ha0, on_atB hl0, lt_add hl0, lt_at hl0, on_updB hl0, on_atU hl0, on_updU hl0, upd_same ha0]))⟩))
  · refine w_skip ?_
    refine (w_n ?_)
    refine w_seq ?_
    obtain ⟨nF6, nF7, hr⟩ := hr.cutL
    refine w_region rfl (by simp (disch := (apply Apart.mk; decide)) only [go_sem, Nat.reduceAdd, Nat.reduceLT, Nat.reduceMul, Nat.reduceLeDiff, Int.reduceToNat, Int.reduceLT, Int.reduceLE, ha0, on_atB hl0, lt_add hl0, lt_at hl0, on_updB hl0, on_atU hl0, on_updU hl0, upd_same ha0, nF6, nF7, cF5]; rfl) ?_
    refine (w_n ?_)
    refine w_seq ?_
    refine w_region rfl (by simp (disch := (apply Apart.mk; decide)) only [go_sem, Nat.reduceAdd, Nat.reduceLT, Nat.reduceMul, Nat.reduceLeDiff, Int.reduceToNat, Int.reduceLT, Int.reduceLE, ha0, on_atB hl0, lt_add hl0, lt_at hl0, on_updB hl0, on_atU hl0, on_updU hl0, upd_same ha0, cF5]; rfl) ?_
    refine (w_n ?_)
    refine w_ret ?_
    obtain rfl := hD _ hr
    exact (w_endR (To.cut (os' := []) (sl := [(4, .cv (.val (.int .i64 r1.1)))]) (h := (h.upd l0 (.cells [.val (.sl (List.map eU (List.drop (Int.toNat r1.2.1) r.rest_))), .val (.bool fault)]))) (WF.upd hwf hl0 (by simp (disch := (apply Apart.mk; decide)) only [go_sem, Nat.reduceAdd, Nat.reduceLT, Nat.reduceMul, Nat.reduceLeDiff, Int.reduceToNat, Int.reduceLT, Int.reduceLE, ha0, on_atB hl0, lt_add hl0, lt_at hl0, on_updB hl0, on_atU hl0, on_updU hl0, upd_same ha0])) (Nat.le_refl _) (by first | rfl | (simp (disch := (apply Apart.mk; decide)) only [go_sem, Nat.reduceAdd, Nat.reduceLT, Nat.reduceMul, Nat.reduceLeDiff, Int.reduceToNat, Int.reduceLT, Int.reduceLE, ha0, on_atB hl0, lt_add hl0, lt_at hl0, on_updB hl0, on_atU hl0, on_updU hl0, upd_same ha0, cF5]; rfl)) (by simp (disch := (apply Apart.mk; decide)) only [go_sem, Nat.reduceAdd, Nat.reduceLT, Nat.reduceMul, Nat.reduceLeDiff, Int.reduceToNat, Int.reduceLT, Int.reduceLE, ha0, on_atB hl0, lt_add hl0, lt_at hl0, on_updB hl0, on_atU hl0, on_updU hl0, upd_same ha0, cF5])) (by simp (disch := (apply Apart.mk; decide)) only [go_sem, Nat.reduceAdd, Nat.reduceLT, Nat.reduceMul, Nat.reduceLeDiff, Int.reduceToNat, Int.reduceLT, Int.reduceLE, ha0, on_atB hl0, lt_add hl0, lt_at hl0, on_updB hl0, on_atU hl0, on_updU hl0, upd_same ha0, Try.results64, results_data CT_gives64, resCell, resVal.eq_2, loadOp_sv, cF5]) ⟨rfl, on_nil (h := (h.upd l0 (.cells [.val (.sl (List.map eU (List.drop (Int.toNat r1.2.1) r.rest_))), .val (.bool fault)]))) (WF.upd hwf hl0 (by simp (disch := (apply Apart.mk; decide)) only [go_sem, Nat.reduceAdd, Nat.reduceLT, Nat.reduceMul, Nat.reduceLeDiff, Int.reduceToNat, Int.reduceLT, Int.reduceLE, ha0, on_atB hl0, lt_add hl0, lt_at hl0, on_updB hl0, on_atU hl0, on_updU hl0, upd_same ha0]))⟩)
end Go.Val

/- part GW44 -/
/- scansion/darray.Load runs as it is read off. -/
namespace Go.Val
set_option linter.unusedVariables false
set_option linter.unusedSimpArgs false
set_option maxRecDepth 20000
open Go.Proofs
theorem darray_Load_runs (b : List UInt8) {h : Heap} {a : (Option Tdarray_Array × Int)} (e : darray_Load b = some a) :
    Runs CT 44 [.cv (.val (.sl (List.map eU b)))] h fun o h' => match a.1 with | none => o = [.cv (.val (.ptr none)), .cv (.val (.int .i64 a.2))] ∧ h' = h | some y => o = [.cv (.val (.ptr (some (h.n + 3, 0)))), .cv (.val (.int .i64 a.2))] ∧ h' = h.on [none, none, none, some (.cells [.val (.sl (List.map eB y.graph.Final)), .val (.sl (List.map (eL eEdge) y.graph.Edges)), .row 3 (List.map eI y.base), .row 91 (List.map edarray_cell y.cells), .val (.sl (List.map eI y.count))])] := by
  refine Runs.start Try.f44 _ Try.func44 rfl (by rw [Try.ntmps44]; simp) (by rfl) (by rfl) (fun hwf hu => ?_)
  obtain ⟨D, hD, hr⟩ : ∃ D : (Option Tdarray_Array × Int) → Prop, (∀ z, D z → z = a) ∧ Holds (darray_Load b) D := ⟨fun z => z = a, fun _ h => h, Holds.intro e rfl⟩
  dsimp only [darray_Load] at hr
  change wpCode _ _ _ _ _ ⟨[(0, .cv (.val (.sl (List.map eU b))))], h.on []⟩
  refine w_seq ?_
  refine w_region rfl (by simp (disch := (apply Apart.mk; decide)) only [go_sem, Nat.reduceAdd, Nat.reduceLT, Nat.reduceMul, Nat.reduceLeDiff, Int.reduceToNat, Int.reduceLT, Int.reduceLE]; rfl) ?_
  refine (w_n ?_)
  refine w_seq ?_
  refine w_region rfl (by simp (disch := (apply Apart.mk; decide)) only [go_sem, Nat.reduceAdd, Nat.reduceLT, Nat.reduceMul, Nat.reduceLeDiff, Int.reduceToNat, Int.reduceLT, Int.reduceLE]; rfl) ?_
  refine (w_n ?_)
  refine w_seq ?_
  refine w_region rfl (by simp (disch := (apply Apart.mk; decide)) only [go_sem, Nat.reduceAdd, Nat.reduceLT, Nat.reduceMul, Nat.reduceLeDiff, Int.reduceToNat, Int.reduceLT, Int.reduceLE]; rfl) ?_
  refine (w_n ?_)
  refine w_seq ?_
  refine w_seq ?_
  refine w_ops rfl ?_
  refine w_upto 1 rfl (by simp (disch := (apply Apart.mk; decide)) only [go_sem, Nat.reduceAdd, Nat.reduceLT, Nat.reduceMul, Nat.reduceLeDiff, Int.reduceToNat, Int.reduceLT, Int.reduceLE]; rfl) ?_
  obtain ⟨r, eF1, hr⟩ := hr.bind
  refine w_call' (out := ?o_eF1) (hp := ?p_eF1) rfl (by simp (disch := (apply Apart.mk; decide)) only [go_sem, Nat.reduceAdd, Nat.reduceLT, Nat.reduceMul, Nat.reduceLeDiff, Int.reduceToNat, Int.reduceLT, Int.reduceLE, Option.getD_some]; rfl) (by simp (disch := (apply Apart.mk; decide)) only [go_sem, Nat.reduceAdd, Nat.reduceLT, Nat.reduceMul, Nat.reduceLeDiff, Int.reduceToNat, Int.reduceLT, Int.reduceLE, Option.getD_some]; rfl) (by simp (disch := (apply Apart.mk; decide)) only [go_sem, Nat.reduceAdd, Nat.reduceLT, Nat.reduceMul, Nat.reduceLeDiff, Int.reduceToNat, Int.reduceLT, Int.reduceLE, Option.getD_some]; rfl) ?c_eF1 ?d_eF1 ?_
  case c_eF1 => (refine darray_reader_number_runs (Tdarray_reader.mk b false) (20000 : Int) (h.n + 0) ?_ eF1; (simp (disch := (apply Apart.mk; decide)) only [go_sem, Nat.reduceAdd, Nat.reduceLT, Nat.reduceMul, Nat.reduceLeDiff, Int.reduceToNat, Int.reduceLT, Int.reduceLE]))
  case d_eF1 => rfl
  refine w_ops_end (by simp (disch := (apply Apart.mk; decide)) only [go_sem, Nat.reduceAdd, Nat.reduceLT, Nat.reduceMul, Nat.reduceLeDiff, Int.reduceToNat, Int.reduceLT, Int.reduceLE]; rfl) ?_
  refine (w_n ?_)
  refine w_K (D := D) (fun xX : (List UInt8 × Bool × List Bool × List (List TEdge)) => ⟨[(4, .cv (.val (.ptr (some (h.n + 0, 0))))), (5, .cv (.val (.ptr (some (h.n + 1, 0)))))], h.on [some (.cells [.val (.sl (List.map eU xX.1)), .val (.bool xX.2.1)]), some (.cells [.row 4 (List.map eB xX.2.2.1), .row 35 (List.map (eL eEdge) xX.2.2.2)])]⟩) (fun xX : (List UInt8 × Bool × List Bool × List (List TEdge)) => darray_Load.k1 xX.1 xX.2.1 xX.2.2.1 xX.2.2.2) (fun xX s' hr ht => ?_) ?_
  · obtain ⟨rest_, fault, Final, Edges⟩ := xX
    dsimp only [darray_Load.k1] at hr ht
    refine (w_nT ht ?_)
    refine w_seq ?_
    refine w_toR (.fix _ _ (.cell (h.n + 1) 0) 4 _ (by simp (disch := (apply Apart.mk; decide)) only [go_sem, Nat.reduceAdd, Nat.reduceLT, Nat.reduceMul, Nat.reduceLeDiff, Int.reduceToNat, Int.reduceLT, Int.reduceLE]; rfl) (.refl _)) ?_
    refine w_toR (.fix _ _ (.cell (h.n + 1) 1) 35 _ (by simp (disch := (apply Apart.mk; decide)) only [go_sem, Nat.reduceAdd, Nat.reduceLT, Nat.reduceMul, Nat.reduceLeDiff, Int.reduceToNat, Int.reduceLT, Int.reduceLE]; rfl) (.refl _)) ?_
    refine w_ops rfl ?_
    refine w_upto 1 rfl (by simp (disch := (apply Apart.mk; decide)) only [go_sem, Nat.reduceAdd, Nat.reduceLT, Nat.reduceMul, Nat.reduceLeDiff, Int.reduceToNat, Int.reduceLT, Int.reduceLE]; rfl) ?_
    obtain ⟨r1, eF2, hr⟩ := hr.bind
    try dsimp only at hr
    rcases xF9 : r1.1 with _ | y
    · rw [xF9] at hr
      dsimp only at hr
      refine w_call' (out := ?o_eF2a) (hp := ?p_eF2a) rfl (by simp (disch := (apply Apart.mk; decide)) only [go_sem, Nat.reduceAdd, Nat.reduceLT, Nat.reduceMul, Nat.reduceLeDiff, Int.reduceToNat, Int.reduceLT, Int.reduceLE, Option.getD_some]; rfl) (by simp (disch := (apply Apart.mk; decide)) only [go_sem, Nat.reduceAdd, Nat.reduceLT, Nat.reduceMul, Nat.reduceLeDiff, Int.reduceToNat, Int.reduceLT, Int.reduceLE, Option.getD_some]; rfl) (by simp (disch := (apply Apart.mk; decide)) only [go_sem, Nat.reduceAdd, Nat.reduceLT, Nat.reduceMul, Nat.reduceLeDiff, Int.reduceToNat, Int.reduceLT, Int.reduceLE, Option.getD_some]; rfl) ?c_eF2a ?d_eF2a ?_
      case c_eF2a => exact darray_Pack_runs_none (TGraph.mk Final Edges) eF2 xF9
      case d_eF2a => rfl
      refine w_ops_end (by simp (disch := (apply Apart.mk; decide)) only [go_sem, Nat.reduceAdd, Nat.reduceLT, Nat.reduceMul, Nat.reduceLeDiff, Int.reduceToNat, Int.reduceLT, Int.reduceLE]; rfl) ?_
      refine (w_n ?_)
      refine w_seq ?_
      refine w_joinR (sj := ⟨[(9, .cv (.val (.ptr none))), (84, .cv (.val (.bool (fault || ((decide ((rest_.length : Int) > (0 : Int))) || (r1.2 != (0 : Int)))))))], h.on []⟩) (w_ops rfl ?_) ?_
      · refine w_upto 5 rfl (by simp (disch := (apply Apart.mk; decide)) only [go_sem, Nat.reduceAdd, Nat.reduceLT, Nat.reduceMul, Nat.reduceLeDiff, Int.reduceToNat, Int.reduceLT, Int.reduceLE]; rfl) ?_
        rcases Bool.eq_false_or_eq_true fault with cF3 | cF3
        · refine w_ops_end (by simp (disch := (apply Apart.mk; decide)) only [go_sem, Nat.reduceAdd, Nat.reduceLT, Nat.reduceMul, Nat.reduceLeDiff, Int.reduceToNat, Int.reduceLT, Int.reduceLE, cF3]; rfl) ?_
          exact w_k (To.cut hwf (Nat.le_refl _) rfl (by simp (disch := (apply Apart.mk; decide)) only [go_sem, Nat.reduceAdd, Nat.reduceLT, Nat.reduceMul, Nat.reduceLeDiff, Int.reduceToNat, Int.reduceLT, Int.reduceLE, cF3]))
        · refine w_upto 8 rfl (by simp (disch := (apply Apart.mk; decide)) only [go_sem, Nat.reduceAdd, Nat.reduceLT, Nat.reduceMul, Nat.reduceLeDiff, Int.reduceToNat, Int.reduceLT, Int.reduceLE, cF3]; rfl) ?_
          rcases Bool.eq_false_or_eq_true (decide ((rest_.length : Int) > (0 : Int))) with cF4 | cF4
          · refine w_ops_end (by simp (disch := (apply Apart.mk; decide)) only [go_sem, Nat.reduceAdd, Nat.reduceLT, Nat.reduceMul, Nat.reduceLeDiff, Int.reduceToNat, Int.reduceLT, Int.reduceLE, cF3, cF4]; rfl) ?_
            exact w_k (To.cut hwf (Nat.le_refl _) rfl (by simp (disch := (apply Apart.mk; decide)) only [go_sem, Nat.reduceAdd, Nat.reduceLT, Nat.reduceMul, Nat.reduceLeDiff, Int.reduceToNat, Int.reduceLT, Int.reduceLE, cF3, cF4]))
          · refine w_ops_end (by simp (disch := (apply Apart.mk; decide)) only [go_sem, Nat.reduceAdd, Nat.reduceLT, Nat.reduceMul, Nat.reduceLeDiff, Int.reduceToNat, Int.reduceLT, Int.reduceLE, cF3, cF4]; rfl) ?_
            exact w_k (To.cut hwf (Nat.le_refl _) rfl (by simp (disch := (apply Apart.mk; decide)) only [go_sem, Nat.reduceAdd, Nat.reduceLT, Nat.reduceMul, Nat.reduceLeDiff, Int.reduceToNat, Int.reduceLT, Int.reduceLE, cF3, cF4]))
      refine w_condH (by simp (disch := (apply Apart.mk; decide)) only [go_sem, Nat.reduceAdd, Nat.reduceLT, Nat.reduceMul, Nat.reduceLeDiff, Int.reduceToNat, Int.reduceLT, Int.reduceLE]) hr (fun cF5 hr => ?_) (fun cF5 hr => ?_)
      · refine w_seq ?_
        refine w_region rfl (by simp (disch := (apply Apart.mk; decide)) only [go_sem, Nat.reduceAdd, Nat.reduceLT, Nat.reduceMul, Nat.reduceLeDiff, Int.reduceToNat, Int.reduceLT, Int.reduceLE, cF5]; rfl) ?_
        refine (w_n ?_)
        refine w_ret ?_
        obtain rfl := hD _ hr
        exact (w_tr (w_endR (To.cut (os' := []) (sl := [(2, .cv (.val (.ptr none))), (3, .cv (.val (.int .i64 (2 : Int))))]) hwf (Nat.le_refl _) rfl (by simp (disch := (apply Apart.mk; decide)) only [go_sem, Nat.reduceAdd, Nat.reduceLT, Nat.reduceMul, Nat.reduceLeDiff, Int.reduceToNat, Int.reduceLT, Int.reduceLE, cF5])) (by simp (disch := (apply Apart.mk; decide)) only [go_sem, Nat.reduceAdd, Nat.reduceLT, Nat.reduceMul, Nat.reduceLeDiff, Int.reduceToNat, Int.reduceLT, Int.reduceLE, Try.results44, results_data CT_gives44, resCell, resVal.eq_2, loadOp_sv, cF5]) ⟨rfl, on_nil hwf⟩))
      · refine w_skip ?_
        refine (w_n ?_)
        refine w_seq ?_
        refine w_region rfl (by simp (disch := (apply Apart.mk; decide)) only [go_sem, Nat.reduceAdd, Nat.reduceLT, Nat.reduceMul, Nat.reduceLeDiff, Int.reduceToNat, Int.reduceLT, Int.reduceLE, cF5]; rfl) ?_
        refine (w_n ?_)
        refine w_ret ?_
        obtain rfl := hD _ hr
        exact (w_endR (To.cut (os' := []) (sl := [(2, .cv (.val (.ptr none))), (3, .cv (.val (.int .i64 (0 : Int))))]) hwf (Nat.le_refl _) rfl (by simp (disch := (apply Apart.mk; decide)) only [go_sem, Nat.reduceAdd, Nat.reduceLT, Nat.reduceMul, Nat.reduceLeDiff, Int.reduceToNat, Int.reduceLT, Int.reduceLE, cF5])) (by simp (disch := (apply Apart.mk; decide)) only [go_sem, Nat.reduceAdd, Nat.reduceLT, Nat.reduceMul, Nat.reduceLeDiff, Int.reduceToNat, Int.reduceLT, Int.reduceLE, Try.results44, results_data CT_gives44, resCell, resVal.eq_2, loadOp_sv, cF5]) ⟨rfl, on_nil hwf⟩)
    · rw [xF9] at hr
      dsimp only at hr
      refine w_call' (out := ?o_eF2b) (hp := ?p_eF2b) rfl (by simp (disch := (apply Apart.mk; decide)) only [go_sem, Nat.reduceAdd, Nat.reduceLT, Nat.reduceMul, Nat.reduceLeDiff, Int.reduceToNat, Int.reduceLT, Int.reduceLE, Option.getD_some]; rfl) (by simp (disch := (apply Apart.mk; decide)) only [go_sem, Nat.reduceAdd, Nat.reduceLT, Nat.reduceMul, Nat.reduceLeDiff, Int.reduceToNat, Int.reduceLT, Int.reduceLE, Option.getD_some]; rfl) (by simp (disch := (apply Apart.mk; decide)) only [go_sem, Nat.reduceAdd, Nat.reduceLT, Nat.reduceMul, Nat.reduceLeDiff, Int.reduceToNat, Int.reduceLT, Int.reduceLE, Option.getD_some]; rfl) ?c_eF2b ?d_eF2b ?_
      case c_eF2b => exact darray_Pack_runs_some (TGraph.mk Final Edges) eF2 xF9
      case d_eF2b => rfl
      refine w_ops_end (by simp (disch := (apply Apart.mk; decide)) only [go_sem, Nat.reduceAdd, Nat.reduceLT, Nat.reduceMul, Nat.reduceLeDiff, Int.reduceToNat, Int.reduceLT, Int.reduceLE]; rfl) ?_
      refine (w_n ?_)
      refine w_seq ?_
      refine w_joinR (sj := ⟨[(9, .cv (.val (.ptr (some (h.n + 3, 0))))), (84, .cv (.val (.bool (fault || ((decide ((rest_.length : Int) > (0 : Int))) || (r1.2 != (0 : Int)))))))], h.on [none, none, none, some (.cells [.val (.sl (List.map eB y.graph.Final)), .val (.sl (List.map (eL eEdge) y.graph.Edges)), .row 3 (List.map eI y.base), .row 91 (List.map edarray_cell y.cells), .val (.sl (List.map eI y.count))])]⟩) (w_ops rfl ?_) ?_
      · refine w_upto 5 rfl (by simp (disch := (apply Apart.mk; decide)) only [go_sem, Nat.reduceAdd, Nat.reduceLT, Nat.reduceMul, Nat.reduceLeDiff, Int.reduceToNat, Int.reduceLT, Int.reduceLE]; rfl) ?_
        rcases Bool.eq_false_or_eq_true fault with cF6 | cF6
        · refine w_ops_end (by simp (disch := (apply Apart.mk; decide)) only [go_sem, Nat.reduceAdd, Nat.reduceLT, Nat.reduceMul, Nat.reduceLeDiff, Int.reduceToNat, Int.reduceLT, Int.reduceLE, cF6]; rfl) ?_
          exact w_k (To.cut hwf (Nat.le_refl _) rfl (by simp (disch := (apply Apart.mk; decide)) only [go_sem, Nat.reduceAdd, Nat.reduceLT, Nat.reduceMul, Nat.reduceLeDiff, Int.reduceToNat, Int.reduceLT, Int.reduceLE, cF6]))
        · refine w_upto 8 rfl (by simp (disch := (apply Apart.mk; decide)) only [go_sem, Nat.reduceAdd, Nat.reduceLT, Nat.reduceMul, Nat.reduceLeDiff, Int.reduceToNat, Int.reduceLT, Int.reduceLE, cF6]; rfl) ?_
          rcases Bool.eq_false_or_eq_true (decide ((rest_.length : Int) > (0 : Int))) with cF7 | cF7
          · refine w_ops_end (by simp (disch := (apply Apart.mk; decide)) only [go_sem, Nat.reduceAdd, Nat.reduceLT, Nat.reduceMul, Nat.reduceLeDiff, Int.reduceToNat, Int.reduceLT, Int.reduceLE, cF6, cF7]; rfl) ?_
            exact w_k (To.cut hwf (Nat.le_refl _) rfl (by simp (disch := (apply Apart.mk; decide)) only [go_sem, Nat.reduceAdd, Nat.reduceLT, Nat.reduceMul, Nat.reduceLeDiff, Int.reduceToNat, Int.reduceLT, Int.reduceLE, cF6, cF7]))
          · refine w_ops_end (by simp (disch := (apply Apart.mk; decide)) only [go_sem, Nat.reduceAdd, Nat.reduceLT, Nat.reduceMul, Nat.reduceLeDiff, Int.reduceToNat, Int.reduceLT, Int.reduceLE, cF6, cF7]; rfl) ?_
            exact w_k (To.cut hwf (Nat.le_refl _) rfl (by simp (disch := (apply Apart.mk; decide)) only [go_sem, Nat.reduceAdd, Nat.reduceLT, Nat.reduceMul, Nat.reduceLeDiff, Int.reduceToNat, Int.reduceLT, Int.reduceLE, cF6, cF7]))
      refine w_condH (by simp (disch := (apply Apart.mk; decide)) only [go_sem, Nat.reduceAdd, Nat.reduceLT, Nat.reduceMul, Nat.reduceLeDiff, Int.reduceToNat, Int.reduceLT, Int.reduceLE]) hr (fun cF8 hr => ?_) (fun cF8 hr => ?_)
      · refine w_seq ?_
        refine w_region rfl (by simp (disch := (apply Apart.mk; decide)) only [go_sem, Nat.reduceAdd, Nat.reduceLT, Nat.reduceMul, Nat.reduceLeDiff, Int.reduceToNat, Int.reduceLT, Int.reduceLE, cF8]; rfl) ?_
        refine (w_n ?_)
        refine w_ret ?_
        obtain rfl := hD _ hr
        exact (w_tr (w_endR (To.cut (os' := []) (sl := [(2, .cv (.val (.ptr none))), (3, .cv (.val (.int .i64 (2 : Int))))]) hwf (Nat.le_refl _) rfl (by simp (disch := (apply Apart.mk; decide)) only [go_sem, Nat.reduceAdd, Nat.reduceLT, Nat.reduceMul, Nat.reduceLeDiff, Int.reduceToNat, Int.reduceLT, Int.reduceLE, cF8])) (by simp (disch := (apply Apart.mk; decide)) only [go_sem, Nat.reduceAdd, Nat.reduceLT, Nat.reduceMul, Nat.reduceLeDiff, Int.reduceToNat, Int.reduceLT, Int.reduceLE, Try.results44, results_data CT_gives44, resCell, resVal.eq_2, loadOp_sv, cF8]) ⟨rfl, on_nil hwf⟩))
      · refine w_skip ?_
        refine (w_n ?_)
        refine w_seq ?_
        refine w_region rfl (by simp (disch := (apply Apart.mk; decide)) only [go_sem, Nat.reduceAdd, Nat.reduceLT, Nat.reduceMul, Nat.reduceLeDiff, Int.reduceToNat, Int.reduceLT, Int.reduceLE, cF8]; rfl) ?_
        refine (w_n ?_)
        refine w_ret ?_
        obtain rfl := hD _ hr
        exact (w_endR (To.cut (os' := [none, none, none, some (.cells [.val (.sl (List.map eB y.graph.Final)), .val (.sl (List.map (eL eEdge) y.graph.Edges)), .row 3 (List.map eI y.base), .row 91 (List.map edarray_cell y.cells), .val (.sl (List.map eI y.count))])]) (sl := [(2, .cv (.val (.ptr (some (h.n + 3, 0))))), (3, .cv (.val (.int .i64 (0 : Int))))]) hwf (Nat.le_refl _) rfl (by simp (disch := (apply Apart.mk; decide)) only [go_sem, Nat.reduceAdd, Nat.reduceLT, Nat.reduceMul, Nat.reduceLeDiff, Int.reduceToNat, Int.reduceLT, Int.reduceLE, cF8])) (by simp (disch := (apply Apart.mk; decide)) only [go_sem, Nat.reduceAdd, Nat.reduceLT, Nat.reduceMul, Nat.reduceLeDiff, Int.reduceToNat, Int.reduceLT, Int.reduceLE, Try.results44, results_data CT_gives44, resCell, resVal.eq_2, loadOp_sv, cF8]) ⟨rfl, rfl⟩)
  · refine w_block ?_
    refine w_Loop (fun xX : (Int × List UInt8 × Bool × List Bool × List (List TEdge)) => ⟨[(4, .cv (.val (.ptr (some (h.n + 0, 0))))), (5, .cv (.val (.ptr (some (h.n + 1, 0))))), (15, .cv (.val (.int .i64 r.1))), (16, .cv (.val (.int .i64 xX.1)))], h.on [some (.cells [.val (.sl (List.map eU xX.2.1)), .val (.bool xX.2.2.1)]), some (.cells [.row 4 (List.map eB xX.2.2.2.1), .row 35 (List.map (eL eEdge) xX.2.2.2.2)])]⟩) hr (To.cut hwf (Nat.le_refl _) rfl (by simp (disch := (apply Apart.mk; decide)) only [go_sem, Nat.reduceAdd, Nat.reduceLT, Nat.reduceMul, Nat.reduceLeDiff, Int.reduceToNat, Int.reduceLT, Int.reduceLE])) (fun W1 xX hr => ?_)
    obtain ⟨v2, rest_1, fault1, Final1, Edges1⟩ := xX
    dsimp only [darray_Load.b1] at hr
    refine w_seq ?_
    refine w_region rfl (by simp (disch := (apply Apart.mk; decide)) only [go_sem, Nat.reduceAdd, Nat.reduceLT, Nat.reduceMul, Nat.reduceLeDiff, Int.reduceToNat, Int.reduceLT, Int.reduceLE]; rfl) ?_
    refine (w_n ?_)
    refine w_seq ?_
    refine w_condH (by simp (disch := (apply Apart.mk; decide)) only [go_sem, Nat.reduceAdd, Nat.reduceLT, Nat.reduceMul, Nat.reduceLeDiff, Int.reduceToNat, Int.reduceLT, Int.reduceLE]) hr (fun cF10 hr => ?_) (fun cF10 hr => ?_)
    · refine w_skip ?_
      refine (w_n ?_)
      refine w_seq ?_
      refine w_K (D := (Aft W1 D)) (fun xX : (List UInt8 × Bool × List Bool × List (List TEdge)) => ⟨[(4, .cv (.val (.ptr (some (h.n + 0, 0))))), (5, .cv (.val (.ptr (some (h.n + 1, 0))))), (15, .cv (.val (.int .i64 r.1))), (16, .cv (.val (.int .i64 v2)))], h.on [some (.cells [.val (.sl (List.map eU xX.1)), .val (.bool xX.2.1)]), some (.cells [.row 4 (List.map eB xX.2.2.1), .row 35 (List.map (eL eEdge) xX.2.2.2)])]⟩) (fun xX : (List UInt8 × Bool × List Bool × List (List TEdge)) => darray_Load.k2 v2 xX.1 xX.2.1 xX.2.2.1 xX.2.2.2) (fun xX s' hr ht => ?_) ?_
      · obtain ⟨rest_2, fault2, Final2, Edges2⟩ := xX
        dsimp only [darray_Load.k2] at hr ht
        refine (w_nT ht ?_)
        refine w_region rfl (by simp (disch := (apply Apart.mk; decide)) only [go_sem, Nat.reduceAdd, Nat.reduceLT, Nat.reduceMul, Nat.reduceLeDiff, Int.reduceToNat, Int.reduceLT, Int.reduceLE, cF10]; rfl) ?_
        exact (w_k ⟨((IntKind.i64.wrap (v2 + (1 : Int))), rest_2, fault2, Final2, Edges2), hr, (To.cut hwf (Nat.le_refl _) rfl (by simp (disch := (apply Apart.mk; decide)) only [go_sem, Nat.reduceAdd, Nat.reduceLT, Nat.reduceMul, Nat.reduceLeDiff, Int.reduceToNat, Int.reduceLT, Int.reduceLE, cF10]))⟩)
      · refine w_block ?_
        refine w_seq ?_
        refine w_ops rfl ?_
        refine w_upto 1 rfl (by simp (disch := (apply Apart.mk; decide)) only [go_sem, Nat.reduceAdd, Nat.reduceLT, Nat.reduceMul, Nat.reduceLeDiff, Int.reduceToNat, Int.reduceLT, Int.reduceLE]; rfl) ?_
        obtain ⟨r2, eF11, hr⟩ := hr.bind
        refine w_call' (out := ?o_eF11) (hp := ?p_eF11) rfl (by simp (disch := (apply Apart.mk; decide)) only [go_sem, Nat.reduceAdd, Nat.reduceLT, Nat.reduceMul, Nat.reduceLeDiff, Int.reduceToNat, Int.reduceLT, Int.reduceLE, Option.getD_some]; rfl) (by simp (disch := (apply Apart.mk; decide)) only [go_sem, Nat.reduceAdd, Nat.reduceLT, Nat.reduceMul, Nat.reduceLeDiff, Int.reduceToNat, Int.reduceLT, Int.reduceLE, Option.getD_some]; rfl) (by simp (disch := (apply Apart.mk; decide)) only [go_sem, Nat.reduceAdd, Nat.reduceLT, Nat.reduceMul, Nat.reduceLeDiff, Int.reduceToNat, Int.reduceLT, Int.reduceLE, Option.getD_some]; rfl) ?c_eF11 ?d_eF11 ?_
        case c_eF11 => (refine darray_reader_byte_runs (Tdarray_reader.mk rest_1 fault1) (h.n + 0) ?_ eF11; (simp (disch := (apply Apart.mk; decide)) only [go_sem, Nat.reduceAdd, Nat.reduceLT, Nat.reduceMul, Nat.reduceLeDiff, Int.reduceToNat, Int.reduceLT, Int.reduceLE]))
        case d_eF11 => rfl
        refine w_ops_end (by simp (disch := (apply Apart.mk; decide)) only [go_sem, Nat.reduceAdd, Nat.reduceLT, Nat.reduceMul, Nat.reduceLeDiff, Int.reduceToNat, Int.reduceLT, Int.reduceLE]; rfl) ?_
        refine (w_n ?_)
        refine w_seq ?_
        refine w_region rfl (by simp (disch := (apply Apart.mk; decide)) only [go_sem, Nat.reduceAdd, Nat.reduceLT, Nat.reduceMul, Nat.reduceLeDiff, Int.reduceToNat, Int.reduceLT, Int.reduceLE, cF10]; rfl) ?_
        refine (w_n ?_)
        refine w_seq ?_
        refine w_seq ?_
        refine w_ops rfl ?_
        refine w_upto 1 rfl (by simp (disch := (apply Apart.mk; decide)) only [go_sem, Nat.reduceAdd, Nat.reduceLT, Nat.reduceMul, Nat.reduceLeDiff, Int.reduceToNat, Int.reduceLT, Int.reduceLE]; rfl) ?_
        obtain ⟨r3, eF12, hr⟩ := hr.bind
        refine w_call' (out := ?o_eF12) (hp := ?p_eF12) rfl (by simp (disch := (apply Apart.mk; decide)) only [go_sem, Nat.reduceAdd, Nat.reduceLT, Nat.reduceMul, Nat.reduceLeDiff, Int.reduceToNat, Int.reduceLT, Int.reduceLE, Option.getD_some]; rfl) (by simp (disch := (apply Apart.mk; decide)) only [go_sem, Nat.reduceAdd, Nat.reduceLT, Nat.reduceMul, Nat.reduceLeDiff, Int.reduceToNat, Int.reduceLT, Int.reduceLE, Option.getD_some]; rfl) (by simp (disch := (apply Apart.mk; decide)) only [go_sem, Nat.reduceAdd, Nat.reduceLT, Nat.reduceMul, Nat.reduceLeDiff, Int.reduceToNat, Int.reduceLT, Int.reduceLE, Option.getD_some]; rfl) ?c_eF12 ?d_eF12 ?_
        case c_eF12 => (refine darray_reader_number_runs r2.2 (256 : Int) (h.n + 0) ?_ eF12; (simp (disch := (apply Apart.mk; decide)) only [go_sem, Nat.reduceAdd, Nat.reduceLT, Nat.reduceMul, Nat.reduceLeDiff, Int.reduceToNat, Int.reduceLT, Int.reduceLE]))
        case d_eF12 => rfl
        refine w_ops_end (by simp (disch := (apply Apart.mk; decide)) only [go_sem, Nat.reduceAdd, Nat.reduceLT, Nat.reduceMul, Nat.reduceLeDiff, Int.reduceToNat, Int.reduceLT, Int.reduceLE]; rfl) ?_
        refine (w_n ?_)
        refine w_K (D := (Aft W1 D)) (fun xX : (List TEdge × List UInt8 × Bool) => ⟨[(4, .cv (.val (.ptr (some (h.n + 0, 0))))), (5, .cv (.val (.ptr (some (h.n + 1, 0))))), (6, .cv (.val (.int .u8 (r2.1.toNat : Int)))), (7, .cv (.row 37 (List.map eEdge xX.1))), (15, .cv (.val (.int .i64 r.1))), (16, .cv (.val (.int .i64 v2)))], h.on [some (.cells [.val (.sl (List.map eU xX.2.1)), .val (.bool xX.2.2)]), some (.cells [.row 4 (List.map eB Final1), .row 35 (List.map (eL eEdge) Edges1)])]⟩) (fun xX : (List TEdge × List UInt8 × Bool) => darray_Load.k3 v2 Final1 Edges1 r2 xX.1 xX.2.1 xX.2.2) (fun xX s' hr ht => ?_) ?_
        · obtain ⟨l, rest_3, fault3⟩ := xX
          dsimp only [darray_Load.k3] at hr ht
          refine (w_nT ht ?_)
          refine w_seq ?_
          refine w_joinR (sj := ⟨[(4, .cv (.val (.ptr (some (h.n + 0, 0))))), (5, .cv (.val (.ptr (some (h.n + 1, 0))))), (6, .cv (.val (.int .u8 (r2.1.toNat : Int)))), (7, .cv (.row 37 (List.map eEdge l))), (15, .cv (.val (.int .i64 r.1))), (16, .cv (.val (.int .i64 v2)))], h.on [some (.cells [.val (.sl (List.map eU rest_3)), .val (.bool (fault3 || (decide ((r2.1.toNat : Int) > (1 : Int)))))]), some (.cells [.row 4 (List.map eB Final1), .row 35 (List.map (eL eEdge) Edges1)])]⟩) (w_ops rfl ?_) ?_
          · refine w_upto 6 rfl (by simp (disch := (apply Apart.mk; decide)) only [go_sem, Nat.reduceAdd, Nat.reduceLT, Nat.reduceMul, Nat.reduceLeDiff, Int.reduceToNat, Int.reduceLT, Int.reduceLE]; rfl) ?_
            rcases Bool.eq_false_or_eq_true fault3 with cF13 | cF13
            · refine w_ops_end (by simp (disch := (apply Apart.mk; decide)) only [go_sem, Nat.reduceAdd, Nat.reduceLT, Nat.reduceMul, Nat.reduceLeDiff, Int.reduceToNat, Int.reduceLT, Int.reduceLE, cF13]; rfl) ?_
              exact w_k (To.cut hwf (Nat.le_refl _) rfl (by simp (disch := (apply Apart.mk; decide)) only [go_sem, Nat.reduceAdd, Nat.reduceLT, Nat.reduceMul, Nat.reduceLeDiff, Int.reduceToNat, Int.reduceLT, Int.reduceLE, cF10, cF13]))
            · refine w_ops_end (by simp (disch := (apply Apart.mk; decide)) only [go_sem, Nat.reduceAdd, Nat.reduceLT, Nat.reduceMul, Nat.reduceLeDiff, Int.reduceToNat, Int.reduceLT, Int.reduceLE, cF13]; rfl) ?_
              exact w_k (To.cut hwf (Nat.le_refl _) rfl (by simp (disch := (apply Apart.mk; decide)) only [go_sem, Nat.reduceAdd, Nat.reduceLT, Nat.reduceMul, Nat.reduceLeDiff, Int.reduceToNat, Int.reduceLT, Int.reduceLE, cF10, cF13]))
          refine w_seq ?_
          refine w_region rfl (by simp (disch := (apply Apart.mk; decide)) only [go_sem, Nat.reduceAdd, Nat.reduceLT, Nat.reduceMul, Nat.reduceLeDiff, Int.reduceToNat, Int.reduceLT, Int.reduceLE, cF10]; rfl) ?_
          refine (w_n ?_)
          refine w_condH (by simp (disch := (apply Apart.mk; decide)) only [go_sem, Nat.reduceAdd, Nat.reduceLT, Nat.reduceMul, Nat.reduceLeDiff, Int.reduceToNat, Int.reduceLT, Int.reduceLE, cF10]) hr (fun cF14 hr => ?_) (fun cF14 hr => ?_)
          · refine w_seq ?_
            refine w_region rfl (by simp (disch := (apply Apart.mk; decide)) only [go_sem, Nat.reduceAdd, Nat.reduceLT, Nat.reduceMul, Nat.reduceLeDiff, Int.reduceToNat, Int.reduceLT, Int.reduceLE, cF10, cF14]; rfl) ?_
            refine (w_n ?_)
            refine w_ret ?_
            obtain rfl := hD _ hr
            exact (w_tr (w_br (w_tr (w_tr (w_tr (w_br (w_tr (w_tr (w_endR (To.cut (os' := []) (sl := [(2, .cv (.val (.ptr none))), (3, .cv (.val (.int .i64 (2 : Int))))]) hwf (Nat.le_refl _) rfl (by simp (disch := (apply Apart.mk; decide)) only [go_sem, Nat.reduceAdd, Nat.reduceLT, Nat.reduceMul, Nat.reduceLeDiff, Int.reduceToNat, Int.reduceLT, Int.reduceLE, cF10, cF14])) (by simp (disch := (apply Apart.mk; decide)) only [go_sem, Nat.reduceAdd, Nat.reduceLT, Nat.reduceMul, Nat.reduceLeDiff, Int.reduceToNat, Int.reduceLT, Int.reduceLE, Try.results44, results_data CT_gives44, resCell, resVal.eq_2, loadOp_sv, cF10, cF14]) ⟨rfl, on_nil hwf⟩)))))))))
          · refine w_skip ?_
            refine (w_n ?_)
            refine w_toR (.fix _ _ (.slot 7) 37 _ (by simp (disch := (apply Apart.mk; decide)) only [go_sem, Nat.reduceAdd, Nat.reduceLT, Nat.reduceMul, Nat.reduceLeDiff, Int.reduceToNat, Int.reduceLT, Int.reduceLE, cF10, cF14]; rfl) (.refl _)) ?_
            refine w_drawn [0, 1, 2, 3, 4, 6, 7, 8, 9, 5, 11, 10, 12, 13, 14] (by rfl) ?_
            obtain ⟨nF15, hr⟩ := hr.room
            obtain ⟨nF16, hr⟩ := hr.room
            refine p_run (l := [0, 1, 2, 3, 4, 6, 7, 8, 9]) (pend' := [9, 8, 7, 6, 4, 3, 2, 1, 0]) (by simp (disch := (apply Apart.mk; decide)) only [go_sem, Nat.reduceAdd, Nat.reduceLT, Nat.reduceMul, Nat.reduceLeDiff, Int.reduceToNat, Int.reduceLT, Int.reduceLE, nF15, nF16]; rfl) rfl ?_
            refine p_op (pend' := [9, 8, 7, 6]) rfl (by simp (disch := (apply Apart.mk; decide)) only [go_sem, Nat.reduceAdd, Nat.reduceLT, Nat.reduceMul, Nat.reduceLeDiff, Int.reduceToNat, Int.reduceLT, Int.reduceLE, nF15, nF16]) (by simp (disch := (apply Apart.mk; decide)) only [go_sem, Nat.reduceAdd, Nat.reduceLT, Nat.reduceMul, Nat.reduceLeDiff, Int.reduceToNat, Int.reduceLT, Int.reduceLE, nF15, nF16]; rfl) (by rfl) ?_
            refine p_run (l := [11]) (pend' := [11, 9, 8, 7, 6]) (by simp (disch := (apply Apart.mk; decide)) only [go_sem, Nat.reduceAdd, Nat.reduceLT, Nat.reduceMul, Nat.reduceLeDiff, Int.reduceToNat, Int.reduceLT, Int.reduceLE, nF15, nF16]; rfl) rfl ?_
            refine p_op (pend' := [11]) rfl (by simp (disch := (apply Apart.mk; decide)) only [go_sem, Nat.reduceAdd, Nat.reduceLT, Nat.reduceMul, Nat.reduceLeDiff, Int.reduceToNat, Int.reduceLT, Int.reduceLE, nF15, nF16]) (by simp (disch := (apply Apart.mk; decide)) only [go_sem, Nat.reduceAdd, Nat.reduceLT, Nat.reduceMul, Nat.reduceLeDiff, Int.reduceToNat, Int.reduceLT, Int.reduceLE, nF15, nF16]; rfl) (by rfl) ?_
            refine p_op (pend' := []) rfl (by simp (disch := (apply Apart.mk; decide)) only [go_sem, Nat.reduceAdd, Nat.reduceLT, Nat.reduceMul, Nat.reduceLeDiff, Int.reduceToNat, Int.reduceLT, Int.reduceLE, nF15, nF16]) (by simp (disch := (apply Apart.mk; decide)) only [go_sem, Nat.reduceAdd, Nat.reduceLT, Nat.reduceMul, Nat.reduceLeDiff, Int.reduceToNat, Int.reduceLT, Int.reduceLE, nF15, nF16]; rfl) (by rfl) ?_
            refine p_run (l := [13]) (pend' := [13]) (by simp (disch := (apply Apart.mk; decide)) only [go_sem, Nat.reduceAdd, Nat.reduceLT, Nat.reduceMul, Nat.reduceLeDiff, Int.reduceToNat, Int.reduceLT, Int.reduceLE, nF15, nF16]; rfl) rfl ?_
            refine p_op (pend' := []) rfl (by simp (disch := (apply Apart.mk; decide)) only [go_sem, Nat.reduceAdd, Nat.reduceLT, Nat.reduceMul, Nat.reduceLeDiff, Int.reduceToNat, Int.reduceLT, Int.reduceLE, nF15, nF16]) (by simp (disch := (apply Apart.mk; decide)) only [go_sem, Nat.reduceAdd, Nat.reduceLT, Nat.reduceMul, Nat.reduceLeDiff, Int.reduceToNat, Int.reduceLT, Int.reduceLE, nF15, nF16]; rfl) (by rfl) ?_
            refine p_end (by simp (disch := (apply Apart.mk; decide)) only [go_sem, Nat.reduceAdd, Nat.reduceLT, Nat.reduceMul, Nat.reduceLeDiff, Int.reduceToNat, Int.reduceLT, Int.reduceLE, nF15, nF16]) ?_
            exact (w_bn (w_k ⟨(rest_3, (fault3 || (decide ((r2.1.toNat : Int) > (1 : Int)))), (Final1 ++ ([((r2.1.toNat : Int) == (1 : Int))])), (Edges1 ++ ([l]))), hr, (To.cut hwf (Nat.le_refl _) rfl (by simp (disch := (apply Apart.mk; decide)) only [go_sem, Nat.reduceAdd, Nat.reduceLT, Nat.reduceMul, Nat.reduceLeDiff, Int.reduceToNat, Int.reduceLT, Int.reduceLE, cF10, cF14]))⟩))
        · refine w_block ?_
          refine w_Loop (fun xX : (List TEdge × Int × List UInt8 × Bool) => ⟨[(4, .cv (.val (.ptr (some (h.n + 0, 0))))), (5, .cv (.val (.ptr (some (h.n + 1, 0))))), (6, .cv (.val (.int .u8 (r2.1.toNat : Int)))), (7, .cv (.row 37 (List.map eEdge xX.1))), (15, .cv (.val (.int .i64 r.1))), (16, .cv (.val (.int .i64 v2))), (21, .cv (.val (.int .i64 r3.1))), (22, .cv (.val (.int .i64 xX.2.1)))], h.on [some (.cells [.val (.sl (List.map eU xX.2.2.1)), .val (.bool xX.2.2.2)]), some (.cells [.row 4 (List.map eB Final1), .row 35 (List.map (eL eEdge) Edges1)])]⟩) hr (To.cut hwf (Nat.le_refl _) rfl (by simp (disch := (apply Apart.mk; decide)) only [go_sem, Nat.reduceAdd, Nat.reduceLT, Nat.reduceMul, Nat.reduceLeDiff, Int.reduceToNat, Int.reduceLT, Int.reduceLE, cF10])) (fun W2 xX hr => ?_)
          obtain ⟨l1, v3, rest_4, fault5⟩ := xX
          dsimp only [darray_Load.b2] at hr
          refine w_seq ?_
          refine w_region rfl (by simp (disch := (apply Apart.mk; decide)) only [go_sem, Nat.reduceAdd, Nat.reduceLT, Nat.reduceMul, Nat.reduceLeDiff, Int.reduceToNat, Int.reduceLT, Int.reduceLE, cF10]; rfl) ?_
          refine (w_n ?_)
          refine w_seq ?_
          refine w_condH (by simp (disch := (apply Apart.mk; decide)) only [go_sem, Nat.reduceAdd, Nat.reduceLT, Nat.reduceMul, Nat.reduceLeDiff, Int.reduceToNat, Int.reduceLT, Int.reduceLE, cF10]) hr (fun cF17 hr => ?_) (fun cF17 hr => ?_)
          · refine w_skip ?_
            refine (w_n ?_)
            refine w_seq ?_
            refine w_block ?_
            refine w_seq ?_
            refine w_ops rfl ?_
            refine w_upto 1 rfl (by simp (disch := (apply Apart.mk; decide)) only [go_sem, Nat.reduceAdd, Nat.reduceLT, Nat.reduceMul, Nat.reduceLeDiff, Int.reduceToNat, Int.reduceLT, Int.reduceLE]; rfl) ?_
            obtain ⟨r4, eF18, hr⟩ := hr.bind
            refine w_call' (out := ?o_eF18) (hp := ?p_eF18) rfl (by simp (disch := (apply Apart.mk; decide)) only [go_sem, Nat.reduceAdd, Nat.reduceLT, Nat.reduceMul, Nat.reduceLeDiff, Int.reduceToNat, Int.reduceLT, Int.reduceLE, Option.getD_some]; rfl) (by simp (disch := (apply Apart.mk; decide)) only [go_sem, Nat.reduceAdd, Nat.reduceLT, Nat.reduceMul, Nat.reduceLeDiff, Int.reduceToNat, Int.reduceLT, Int.reduceLE, Option.getD_some]; rfl) (by simp (disch := (apply Apart.mk; decide)) only [go_sem, Nat.reduceAdd, Nat.reduceLT, Nat.reduceMul, Nat.reduceLeDiff, Int.reduceToNat, Int.reduceLT, Int.reduceLE, Option.getD_some]; rfl) ?c_eF18 ?d_eF18 ?_
            case c_eF18 => (refine darray_reader_byte_runs (Tdarray_reader.mk rest_4 fault5) (h.n + 0) ?_ eF18; (simp (disch := (apply Apart.mk; decide)) only [go_sem, Nat.reduceAdd, Nat.reduceLT, Nat.reduceMul, Nat.reduceLeDiff, Int.reduceToNat, Int.reduceLT, Int.reduceLE]))
            case d_eF18 => rfl
            refine w_ops_end (by simp (disch := (apply Apart.mk; decide)) only [go_sem, Nat.reduceAdd, Nat.reduceLT, Nat.reduceMul, Nat.reduceLeDiff, Int.reduceToNat, Int.reduceLT, Int.reduceLE]; rfl) ?_
            refine (w_n ?_)
            refine w_seq ?_
            refine w_ops rfl ?_
            refine w_upto 1 rfl (by simp (disch := (apply Apart.mk; decide)) only [go_sem, Nat.reduceAdd, Nat.reduceLT, Nat.reduceMul, Nat.reduceLeDiff, Int.reduceToNat, Int.reduceLT, Int.reduceLE]; rfl) ?_
            obtain ⟨r5, eF19, hr⟩ := hr.bind
            refine w_call' (out := ?o_eF19) (hp := ?p_eF19) rfl (by simp (disch := (apply Apart.mk; decide)) only [go_sem, Nat.reduceAdd, Nat.reduceLT, Nat.reduceMul, Nat.reduceLeDiff, Int.reduceToNat, Int.reduceLT, Int.reduceLE, Option.getD_some]; rfl) (by simp (disch := (apply Apart.mk; decide)) only [go_sem, Nat.reduceAdd, Nat.reduceLT, Nat.reduceMul, Nat.reduceLeDiff, Int.reduceToNat, Int.reduceLT, Int.reduceLE, Option.getD_some]; rfl) (by simp (disch := (apply Apart.mk; decide)) only [go_sem, Nat.reduceAdd, Nat.reduceLT, Nat.reduceMul, Nat.reduceLeDiff, Int.reduceToNat, Int.reduceLT, Int.reduceLE, Option.getD_some]; rfl) ?c_eF19 ?d_eF19 ?_
            case c_eF19 => (refine darray_reader_number_runs r4.2 (20000 : Int) (h.n + 0) ?_ eF19; (simp (disch := (apply Apart.mk; decide)) only [go_sem, Nat.reduceAdd, Nat.reduceLT, Nat.reduceMul, Nat.reduceLeDiff, Int.reduceToNat, Int.reduceLT, Int.reduceLE]))
            case d_eF19 => rfl
            refine w_ops_end (by simp (disch := (apply Apart.mk; decide)) only [go_sem, Nat.reduceAdd, Nat.reduceLT, Nat.reduceMul, Nat.reduceLeDiff, Int.reduceToNat, Int.reduceLT, Int.reduceLE]; rfl) ?_
            refine (w_n ?_)
            obtain ⟨nF20, hr⟩ := hr.room
            refine w_region rfl (by simp (disch := (apply Apart.mk; decide)) only [go_sem, Nat.reduceAdd, Nat.reduceLT, Nat.reduceMul, Nat.reduceLeDiff, Int.reduceToNat, Int.reduceLT, Int.reduceLE, nF20, cF10, cF17]; rfl) ?_
            refine (w_bn (w_n ?_))
            refine w_region rfl (by simp (disch := (apply Apart.mk; decide)) only [go_sem, Nat.reduceAdd, Nat.reduceLT, Nat.reduceMul, Nat.reduceLeDiff, Int.reduceToNat, Int.reduceLT, Int.reduceLE, cF10, cF17]; rfl) ?_
            exact (w_k ⟨((l1 ++ ([(TEdge.mk r4.1 r5.1)])), (IntKind.i64.wrap (v3 + (1 : Int))), r5.2.rest_, r5.2.fault), hr, (To.cut hwf (Nat.le_refl _) rfl (by simp (disch := (apply Apart.mk; decide)) only [go_sem, Nat.reduceAdd, Nat.reduceLT, Nat.reduceMul, Nat.reduceLeDiff, Int.reduceToNat, Int.reduceLT, Int.reduceLE, cF10, cF17]))⟩)
          · refine w_exit ?_
            exact (w_te (w_te (w_bx (w_k ⟨(l1, rest_4, fault5), (hr).map, (To.cut hwf (Nat.le_refl _) rfl (by simp (disch := (apply Apart.mk; decide)) only [go_sem, Nat.reduceAdd, Nat.reduceLT, Nat.reduceMul, Nat.reduceLeDiff, Int.reduceToNat, Int.reduceLT, Int.reduceLE, cF10, cF17]))⟩))))
    · refine w_exit ?_
      exact (w_te (w_te (w_bx (w_k ⟨(rest_1, fault1, Final1, Edges1), (hr).map, (To.cut hwf (Nat.le_refl _) rfl (by simp (disch := (apply Apart.mk; decide)) only [go_sem, Nat.reduceAdd, Nat.reduceLT, Nat.reduceMul, Nat.reduceLeDiff, Int.reduceToNat, Int.reduceLT, Int.reduceLE, cF10]))⟩))))
theorem darray_Load_runs_none (b : List UInt8) {h : Heap} {a : (Option Tdarray_Array × Int)} (e : darray_Load b = some a) (hx : a.1 = none) :
    Runs CT 44 [.cv (.val (.sl (List.map eU b)))] h fun o h' => o = [.cv (.val (.ptr none)), .cv (.val (.int .i64 a.2))] ∧ h' = h := by
  have := darray_Load_runs (h := h) b e
  rw [hx] at this
  exact this
theorem darray_Load_runs_some (b : List UInt8) {h : Heap} {a : (Option Tdarray_Array × Int)} {y : Tdarray_Array} (e : darray_Load b = some a) (hx : a.1 = some y) :
    Runs CT 44 [.cv (.val (.sl (List.map eU b)))] h fun o h' => o = [.cv (.val (.ptr (some (h.n + 3, 0)))), .cv (.val (.int .i64 a.2))] ∧ h' = h.on [none, none, none, some (.cells [.val (.sl (List.map eB y.graph.Final)), .val (.sl (List.map (eL eEdge) y.graph.Edges)), .row 3 (List.map eI y.base), .row 91 (List.map edarray_cell y.cells), .val (.sl (List.map eI y.count))])] := by
  have := darray_Load_runs (h := h) b e
  rw [hx] at this
  exact this
end Go.Val

/- part GW21 -/
/- scansion/scansionlaw18.awake runs as it is read off. -/
namespace Go.Val
set_option linter.unusedVariables false
set_option linter.unusedSimpArgs false
set_option maxRecDepth 20000
open Go.Proofs
theorem scansionlaw18_awake_runs {h : Heap} {a : Bool} (e : scansionlaw18_awake = some a) :
    Runs CT 21 [] h fun o h' => o = [.cv (.val (.bool a))] ∧ h' = h := by
  refine Runs.start Try.f21 _ Try.func21 rfl (by rw [Try.ntmps21]; simp) (by rfl) (by rfl) (fun hwf hu => ?_)
  obtain ⟨D, hD, hr⟩ : ∃ D : Bool → Prop, (∀ z, D z → z = a) ∧ Holds (scansionlaw18_awake) D := ⟨fun z => z = a, fun _ h => h, Holds.intro e rfl⟩
  dsimp only [scansionlaw18_awake] at hr
  change wpCode _ _ _ _ _ ⟨[], h.on []⟩
  refine w_seq ?_
  refine w_region rfl (by simp (disch := (apply Apart.mk; decide)) only [go_sem, Nat.reduceAdd, Nat.reduceLT, Nat.reduceMul, Nat.reduceLeDiff, Int.reduceToNat, Int.reduceLT, Int.reduceLE]; rfl) ?_
  refine (w_n ?_)
  refine w_seq ?_
  refine w_ops rfl ?_
  refine w_upto 1 rfl (by simp (disch := (apply Apart.mk; decide)) only [go_sem, Nat.reduceAdd, Nat.reduceLT, Nat.reduceMul, Nat.reduceLeDiff, Int.reduceToNat, Int.reduceLT, Int.reduceLE]; rfl) ?_
  obtain ⟨r, eF1, hr⟩ := hr.bind
  refine w_call' (out := ?o_eF1) (hp := ?p_eF1) rfl (by simp (disch := (apply Apart.mk; decide)) only [go_sem, Nat.reduceAdd, Nat.reduceLT, Nat.reduceMul, Nat.reduceLeDiff, Int.reduceToNat, Int.reduceLT, Int.reduceLE, Option.getD_some]; rfl) (by simp (disch := (apply Apart.mk; decide)) only [go_sem, Nat.reduceAdd, Nat.reduceLT, Nat.reduceMul, Nat.reduceLeDiff, Int.reduceToNat, Int.reduceLT, Int.reduceLE, Option.getD_some]; rfl) (by simp (disch := (apply Apart.mk; decide)) only [go_sem, Nat.reduceAdd, Nat.reduceLT, Nat.reduceMul, Nat.reduceLeDiff, Int.reduceToNat, Int.reduceLT, Int.reduceLE, Option.getD_some]; rfl) ?c_eF1 ?d_eF1 ?_
  case c_eF1 => exact scansionref17_Build_runs ([([97, 98] : Str), ([99, 98] : Str)]) eF1
  case d_eF1 => rfl
  refine w_ops_end (by simp (disch := (apply Apart.mk; decide)) only [go_sem, Nat.reduceAdd, Nat.reduceLT, Nat.reduceMul, Nat.reduceLeDiff, Int.reduceToNat, Int.reduceLT, Int.reduceLE]; rfl) ?_
  refine (w_n ?_)
  refine w_seq ?_
  refine w_ops rfl ?_
  refine w_upto 1 rfl (by simp (disch := (apply Apart.mk; decide)) only [go_sem, Nat.reduceAdd, Nat.reduceLT, Nat.reduceMul, Nat.reduceLeDiff, Int.reduceToNat, Int.reduceLT, Int.reduceLE]; rfl) ?_
  obtain ⟨r1, eF2, hr⟩ := hr.bind
  try dsimp only at hr
  rcases xF12 : r1.1 with _ | y
  · rw [xF12] at hr
    dsimp only at hr
    refine w_call' (out := ?o_eF2a) (hp := ?p_eF2a) rfl (by simp (disch := (apply Apart.mk; decide)) only [go_sem, Nat.reduceAdd, Nat.reduceLT, Nat.reduceMul, Nat.reduceLeDiff, Int.reduceToNat, Int.reduceLT, Int.reduceLE, Option.getD_some]; rfl) (by simp (disch := (apply Apart.mk; decide)) only [go_sem, Nat.reduceAdd, Nat.reduceLT, Nat.reduceMul, Nat.reduceLeDiff, Int.reduceToNat, Int.reduceLT, Int.reduceLE, Option.getD_some]; rfl) (by simp (disch := (apply Apart.mk; decide)) only [go_sem, Nat.reduceAdd, Nat.reduceLT, Nat.reduceMul, Nat.reduceLeDiff, Int.reduceToNat, Int.reduceLT, Int.reduceLE, Option.getD_some]; rfl) ?c_eF2a ?d_eF2a ?_
    case c_eF2a => exact darray_Pack_runs_none r.1 eF2 xF12
    case d_eF2a => rfl
    refine w_ops_end (by simp (disch := (apply Apart.mk; decide)) only [go_sem, Nat.reduceAdd, Nat.reduceLT, Nat.reduceMul, Nat.reduceLeDiff, Int.reduceToNat, Int.reduceLT, Int.reduceLE]; rfl) ?_
    refine (w_n ?_)
    refine w_joinR (sj := ⟨[(0, .cv (.val (.bool false)))], h.on []⟩) (w_ops rfl ?_) ?_
    · refine w_upto 3 rfl (by simp (disch := (apply Apart.mk; decide)) only [go_sem, Nat.reduceAdd, Nat.reduceLT, Nat.reduceMul, Nat.reduceLeDiff, Int.reduceToNat, Int.reduceLT, Int.reduceLE]; rfl) ?_
      rcases Bool.eq_false_or_eq_true (r1.2 == (0 : Int)) with cF3 | cF3
      · refine w_upto 5 rfl (by simp (disch := (apply Apart.mk; decide)) only [go_sem, Nat.reduceAdd, Nat.reduceLT, Nat.reduceMul, Nat.reduceLeDiff, Int.reduceToNat, Int.reduceLT, Int.reduceLE, cF3]; rfl) ?_
        refine w_off (by simp (disch := (apply Apart.mk; decide)) only [go_sem, Nat.reduceAdd, Nat.reduceLT, Nat.reduceMul, Nat.reduceLeDiff, Int.reduceToNat, Int.reduceLT, Int.reduceLE, cF3]) ?_
        refine w_upto 4 rfl (by simp (disch := (apply Apart.mk; decide)) only [go_sem, Nat.reduceAdd, Nat.reduceLT, Nat.reduceMul, Nat.reduceLeDiff, Int.reduceToNat, Int.reduceLT, Int.reduceLE, cF3]; rfl) ?_
        refine w_off (by simp (disch := (apply Apart.mk; decide)) only [go_sem, Nat.reduceAdd, Nat.reduceLT, Nat.reduceMul, Nat.reduceLeDiff, Int.reduceToNat, Int.reduceLT, Int.reduceLE, cF3]) ?_
        refine w_upto 6 rfl (by simp (disch := (apply Apart.mk; decide)) only [go_sem, Nat.reduceAdd, Nat.reduceLT, Nat.reduceMul, Nat.reduceLeDiff, Int.reduceToNat, Int.reduceLT, Int.reduceLE, cF3]; rfl) ?_
        refine w_off (by simp (disch := (apply Apart.mk; decide)) only [go_sem, Nat.reduceAdd, Nat.reduceLT, Nat.reduceMul, Nat.reduceLeDiff, Int.reduceToNat, Int.reduceLT, Int.reduceLE, cF3]) ?_
        refine w_upto 1 rfl (by simp (disch := (apply Apart.mk; decide)) only [go_sem, Nat.reduceAdd, Nat.reduceLT, Nat.reduceMul, Nat.reduceLeDiff, Int.reduceToNat, Int.reduceLT, Int.reduceLE, cF3]; rfl) ?_
        refine w_off (by simp (disch := (apply Apart.mk; decide)) only [go_sem, Nat.reduceAdd, Nat.reduceLT, Nat.reduceMul, Nat.reduceLeDiff, Int.reduceToNat, Int.reduceLT, Int.reduceLE, cF3]) ?_
        refine w_ops_end (by simp (disch := (apply Apart.mk; decide)) only [go_sem, Nat.reduceAdd, Nat.reduceLT, Nat.reduceMul, Nat.reduceLeDiff, Int.reduceToNat, Int.reduceLT, Int.reduceLE, cF3]; rfl) ?_
        exact w_k (To.cut hwf (Nat.le_refl _) rfl (by simp (disch := (apply Apart.mk; decide)) only [go_sem, Nat.reduceAdd, Nat.reduceLT, Nat.reduceMul, Nat.reduceLeDiff, Int.reduceToNat, Int.reduceLT, Int.reduceLE, cF3]))
      · refine w_upto 5 rfl (by simp (disch := (apply Apart.mk; decide)) only [go_sem, Nat.reduceAdd, Nat.reduceLT, Nat.reduceMul, Nat.reduceLeDiff, Int.reduceToNat, Int.reduceLT, Int.reduceLE, cF3]; rfl) ?_
        refine w_off (by simp (disch := (apply Apart.mk; decide)) only [go_sem, Nat.reduceAdd, Nat.reduceLT, Nat.reduceMul, Nat.reduceLeDiff, Int.reduceToNat, Int.reduceLT, Int.reduceLE, cF3]) ?_
        refine w_upto 4 rfl (by simp (disch := (apply Apart.mk; decide)) only [go_sem, Nat.reduceAdd, Nat.reduceLT, Nat.reduceMul, Nat.reduceLeDiff, Int.reduceToNat, Int.reduceLT, Int.reduceLE, cF3]; rfl) ?_
        refine w_off (by simp (disch := (apply Apart.mk; decide)) only [go_sem, Nat.reduceAdd, Nat.reduceLT, Nat.reduceMul, Nat.reduceLeDiff, Int.reduceToNat, Int.reduceLT, Int.reduceLE, cF3]) ?_
        refine w_upto 6 rfl (by simp (disch := (apply Apart.mk; decide)) only [go_sem, Nat.reduceAdd, Nat.reduceLT, Nat.reduceMul, Nat.reduceLeDiff, Int.reduceToNat, Int.reduceLT, Int.reduceLE, cF3]; rfl) ?_
        refine w_off (by simp (disch := (apply Apart.mk; decide)) only [go_sem, Nat.reduceAdd, Nat.reduceLT, Nat.reduceMul, Nat.reduceLeDiff, Int.reduceToNat, Int.reduceLT, Int.reduceLE, cF3]) ?_
        refine w_upto 1 rfl (by simp (disch := (apply Apart.mk; decide)) only [go_sem, Nat.reduceAdd, Nat.reduceLT, Nat.reduceMul, Nat.reduceLeDiff, Int.reduceToNat, Int.reduceLT, Int.reduceLE, cF3]; rfl) ?_
        refine w_off (by simp (disch := (apply Apart.mk; decide)) only [go_sem, Nat.reduceAdd, Nat.reduceLT, Nat.reduceMul, Nat.reduceLeDiff, Int.reduceToNat, Int.reduceLT, Int.reduceLE, cF3]) ?_
        refine w_ops_end (by simp (disch := (apply Apart.mk; decide)) only [go_sem, Nat.reduceAdd, Nat.reduceLT, Nat.reduceMul, Nat.reduceLeDiff, Int.reduceToNat, Int.reduceLT, Int.reduceLE, cF3]; rfl) ?_
        exact w_k (To.cut hwf (Nat.le_refl _) rfl (by simp (disch := (apply Apart.mk; decide)) only [go_sem, Nat.reduceAdd, Nat.reduceLT, Nat.reduceMul, Nat.reduceLeDiff, Int.reduceToNat, Int.reduceLT, Int.reduceLE, cF3]))
    refine w_ret ?_
    obtain rfl := hD _ hr
    exact (w_endR (To.cut (os' := []) (sl := [(0, .cv (.val (.bool false)))]) hwf (Nat.le_refl _) rfl (by simp (disch := (apply Apart.mk; decide)) only [go_sem, Nat.reduceAdd, Nat.reduceLT, Nat.reduceMul, Nat.reduceLeDiff, Int.reduceToNat, Int.reduceLT, Int.reduceLE])) (by simp (disch := (apply Apart.mk; decide)) only [go_sem, Nat.reduceAdd, Nat.reduceLT, Nat.reduceMul, Nat.reduceLeDiff, Int.reduceToNat, Int.reduceLT, Int.reduceLE, Try.results21, results_data CT_gives21, resCell, resVal.eq_2, loadOp_sv]) ⟨rfl, on_nil hwf⟩)
  · rw [xF12] at hr
    dsimp only at hr
    refine w_call' (out := ?o_eF2b) (hp := ?p_eF2b) rfl (by simp (disch := (apply Apart.mk; decide)) only [go_sem, Nat.reduceAdd, Nat.reduceLT, Nat.reduceMul, Nat.reduceLeDiff, Int.reduceToNat, Int.reduceLT, Int.reduceLE, Option.getD_some]; rfl) (by simp (disch := (apply Apart.mk; decide)) only [go_sem, Nat.reduceAdd, Nat.reduceLT, Nat.reduceMul, Nat.reduceLeDiff, Int.reduceToNat, Int.reduceLT, Int.reduceLE, Option.getD_some]; rfl) (by simp (disch := (apply Apart.mk; decide)) only [go_sem, Nat.reduceAdd, Nat.reduceLT, Nat.reduceMul, Nat.reduceLeDiff, Int.reduceToNat, Int.reduceLT, Int.reduceLE, Option.getD_some]; rfl) ?c_eF2b ?d_eF2b ?_
    case c_eF2b => exact darray_Pack_runs_some r.1 eF2 xF12
    case d_eF2b => rfl
    refine w_ops_end (by simp (disch := (apply Apart.mk; decide)) only [go_sem, Nat.reduceAdd, Nat.reduceLT, Nat.reduceMul, Nat.reduceLeDiff, Int.reduceToNat, Int.reduceLT, Int.reduceLE]; rfl) ?_
    refine (w_n ?_)
    obtain ⟨v, vF11, hr⟩ := hr.bind
    refine w_joinR (sj := ⟨[(0, .cv (.val (.bool v)))], h.on []⟩) (w_ops rfl ?_) ?_
    · have hr := Holds.intro (D := fun z => z = v) vF11 rfl
      refine w_upto 3 rfl (by simp (disch := (apply Apart.mk; decide)) only [go_sem, Nat.reduceAdd, Nat.reduceLT, Nat.reduceMul, Nat.reduceLeDiff, Int.reduceToNat, Int.reduceLT, Int.reduceLE]; rfl) ?_
      rcases hr.ite with ⟨cF4, hr⟩ | ⟨cF4, hr⟩
      · refine w_upto 5 rfl (by simp (disch := (apply Apart.mk; decide)) only [go_sem, Nat.reduceAdd, Nat.reduceLT, Nat.reduceMul, Nat.reduceLeDiff, Int.reduceToNat, Int.reduceLT, Int.reduceLE, cF4]; rfl) ?_
        obtain ⟨r2, eF5, hr⟩ := hr.bind
        refine w_call' (out := ?o_eF5) (hp := ?p_eF5) (by simp (disch := (apply Apart.mk; decide)) only [go_sem, Nat.reduceAdd, Nat.reduceLT, Nat.reduceMul, Nat.reduceLeDiff, Int.reduceToNat, Int.reduceLT, Int.reduceLE, Option.getD_some, cF4]) (by simp (disch := (apply Apart.mk; decide)) only [go_sem, Nat.reduceAdd, Nat.reduceLT, Nat.reduceMul, Nat.reduceLeDiff, Int.reduceToNat, Int.reduceLT, Int.reduceLE, Option.getD_some, cF4]; rfl) (by simp (disch := (apply Apart.mk; decide)) only [go_sem, Nat.reduceAdd, Nat.reduceLT, Nat.reduceMul, Nat.reduceLeDiff, Int.reduceToNat, Int.reduceLT, Int.reduceLE, Option.getD_some, cF4]; rfl) (by simp (disch := (apply Apart.mk; decide)) only [go_sem, Nat.reduceAdd, Nat.reduceLT, Nat.reduceMul, Nat.reduceLeDiff, Int.reduceToNat, Int.reduceLT, Int.reduceLE, Option.getD_some, cF4]; rfl) ?c_eF5 ?d_eF5 ?_
        case c_eF5 => (refine darray_Array_Start_runs y (h.n + 2) ?_ eF5; (simp (disch := (apply Apart.mk; decide)) only [go_sem, Nat.reduceAdd, Nat.reduceLT, Nat.reduceMul, Nat.reduceLeDiff, Int.reduceToNat, Int.reduceLT, Int.reduceLE]))
        case d_eF5 => rfl
        refine w_upto 3 rfl (by simp (disch := (apply Apart.mk; decide)) only [go_sem, Nat.reduceAdd, Nat.reduceLT, Nat.reduceMul, Nat.reduceLeDiff, Int.reduceToNat, Int.reduceLT, Int.reduceLE, cF4]; rfl) ?_
        rcases hr.ite with ⟨cF6, hr⟩ | ⟨cF6, hr⟩
        · refine w_upto 1 rfl (by simp (disch := (apply Apart.mk; decide)) only [go_sem, Nat.reduceAdd, Nat.reduceLT, Nat.reduceMul, Nat.reduceLeDiff, Int.reduceToNat, Int.reduceLT, Int.reduceLE, cF4, cF6]; rfl) ?_
          obtain ⟨r3, eF7, hr⟩ := hr.bind
          refine w_call' (out := ?o_eF7) (hp := ?p_eF7) (by simp (disch := (apply Apart.mk; decide)) only [go_sem, Nat.reduceAdd, Nat.reduceLT, Nat.reduceMul, Nat.reduceLeDiff, Int.reduceToNat, Int.reduceLT, Int.reduceLE, Option.getD_some, cF4, cF6]) (by simp (disch := (apply Apart.mk; decide)) only [go_sem, Nat.reduceAdd, Nat.reduceLT, Nat.reduceMul, Nat.reduceLeDiff, Int.reduceToNat, Int.reduceLT, Int.reduceLE, Option.getD_some, cF4, cF6]; rfl) (by simp (disch := (apply Apart.mk; decide)) only [go_sem, Nat.reduceAdd, Nat.reduceLT, Nat.reduceMul, Nat.reduceLeDiff, Int.reduceToNat, Int.reduceLT, Int.reduceLE, Option.getD_some, cF4, cF6]; rfl) (by simp (disch := (apply Apart.mk; decide)) only [go_sem, Nat.reduceAdd, Nat.reduceLT, Nat.reduceMul, Nat.reduceLeDiff, Int.reduceToNat, Int.reduceLT, Int.reduceLE, Option.getD_some, cF4, cF6]; rfl) ?c_eF7 ?d_eF7 ?_
          case c_eF7 => (refine darray_Array_Words_runs y (h.n + 2) ?_ eF7; (simp (disch := (apply Apart.mk; decide)) only [go_sem, Nat.reduceAdd, Nat.reduceLT, Nat.reduceMul, Nat.reduceLeDiff, Int.reduceToNat, Int.reduceLT, Int.reduceLE]))
          case d_eF7 => rfl
          refine w_upto 3 rfl (by simp (disch := (apply Apart.mk; decide)) only [go_sem, Nat.reduceAdd, Nat.reduceLT, Nat.reduceMul, Nat.reduceLeDiff, Int.reduceToNat, Int.reduceLT, Int.reduceLE, cF4, cF6]; rfl) ?_
          rcases hr.ite with ⟨cF8, hr⟩ | ⟨cF8, hr⟩
          · refine w_upto 3 rfl (by simp (disch := (apply Apart.mk; decide)) only [go_sem, Nat.reduceAdd, Nat.reduceLT, Nat.reduceMul, Nat.reduceLeDiff, Int.reduceToNat, Int.reduceLT, Int.reduceLE, cF4, cF6, cF8]; rfl) ?_
            obtain ⟨r4, eF9, hr⟩ := hr.bind
            refine w_call' (out := ?o_eF9) (hp := ?p_eF9) (by simp (disch := (apply Apart.mk; decide)) only [go_sem, Nat.reduceAdd, Nat.reduceLT, Nat.reduceMul, Nat.reduceLeDiff, Int.reduceToNat, Int.reduceLT, Int.reduceLE, Option.getD_some, cF4, cF6, cF8]) (by simp (disch := (apply Apart.mk; decide)) only [go_sem, Nat.reduceAdd, Nat.reduceLT, Nat.reduceMul, Nat.reduceLeDiff, Int.reduceToNat, Int.reduceLT, Int.reduceLE, Option.getD_some, cF4, cF6, cF8]; rfl) (by simp (disch := (apply Apart.mk; decide)) only [go_sem, Nat.reduceAdd, Nat.reduceLT, Nat.reduceMul, Nat.reduceLeDiff, Int.reduceToNat, Int.reduceLT, Int.reduceLE, Option.getD_some, cF4, cF6, cF8]; rfl) (by simp (disch := (apply Apart.mk; decide)) only [go_sem, Nat.reduceAdd, Nat.reduceLT, Nat.reduceMul, Nat.reduceLeDiff, Int.reduceToNat, Int.reduceLT, Int.reduceLE, Option.getD_some, cF4, cF6, cF8]; rfl) ?c_eF9 ?d_eF9 ?_
            case c_eF9 => (refine darray_Array_Prefixes_runs y ([(u8 (97 : Int)), (u8 (98 : Int)), (u8 (99 : Int))]) (h.n + 2) ?_ eF9; (simp (disch := (apply Apart.mk; decide)) only [go_sem, Nat.reduceAdd, Nat.reduceLT, Nat.reduceMul, Nat.reduceLeDiff, Int.reduceToNat, Int.reduceLT, Int.reduceLE]))
            case d_eF9 => rfl
            refine w_upto 1 rfl (by simp (disch := (apply Apart.mk; decide)) only [go_sem, Nat.reduceAdd, Nat.reduceLT, Nat.reduceMul, Nat.reduceLeDiff, Int.reduceToNat, Int.reduceLT, Int.reduceLE, cF4, cF6, cF8]; rfl) ?_
            obtain ⟨r5, eF10, hr⟩ := hr.bind
            refine w_call' (out := ?o_eF10) (hp := ?p_eF10) (by simp (disch := (apply Apart.mk; decide)) only [go_sem, Nat.reduceAdd, Nat.reduceLT, Nat.reduceMul, Nat.reduceLeDiff, Int.reduceToNat, Int.reduceLT, Int.reduceLE, Option.getD_some, cF4, cF6, cF8]) (by simp (disch := (apply Apart.mk; decide)) only [go_sem, Nat.reduceAdd, Nat.reduceLT, Nat.reduceMul, Nat.reduceLeDiff, Int.reduceToNat, Int.reduceLT, Int.reduceLE, Option.getD_some, cF4, cF6, cF8]; rfl) (by simp (disch := (apply Apart.mk; decide)) only [go_sem, Nat.reduceAdd, Nat.reduceLT, Nat.reduceMul, Nat.reduceLeDiff, Int.reduceToNat, Int.reduceLT, Int.reduceLE, Option.getD_some, cF4, cF6, cF8]; rfl) (by simp (disch := (apply Apart.mk; decide)) only [go_sem, Nat.reduceAdd, Nat.reduceLT, Nat.reduceMul, Nat.reduceLeDiff, Int.reduceToNat, Int.reduceLT, Int.reduceLE, Option.getD_some, cF4, cF6, cF8]; rfl) ?c_eF10 ?d_eF10 ?_
            case c_eF10 => exact scansionref01_SameInts_runs r4 ([(2 : Int)]) eF10
            case d_eF10 => rfl
            refine w_ops_end (by simp (disch := (apply Apart.mk; decide)) only [go_sem, Nat.reduceAdd, Nat.reduceLT, Nat.reduceMul, Nat.reduceLeDiff, Int.reduceToNat, Int.reduceLT, Int.reduceLE, cF4, cF6, cF8]; rfl) ?_
            obtain rfl : _ = v := hr
            exact w_k (To.cut hwf (Nat.le_refl _) rfl (by simp (disch := (apply Apart.mk; decide)) only [go_sem, Nat.reduceAdd, Nat.reduceLT, Nat.reduceMul, Nat.reduceLeDiff, Int.reduceToNat, Int.reduceLT, Int.reduceLE, cF4, cF6, cF8]))
          · refine w_upto 3 rfl (by simp (disch := (apply Apart.mk; decide)) only [go_sem, Nat.reduceAdd, Nat.reduceLT, Nat.reduceMul, Nat.reduceLeDiff, Int.reduceToNat, Int.reduceLT, Int.reduceLE, cF4, cF6, cF8]; rfl) ?_
            refine w_off (by simp (disch := (apply Apart.mk; decide)) only [go_sem, Nat.reduceAdd, Nat.reduceLT, Nat.reduceMul, Nat.reduceLeDiff, Int.reduceToNat, Int.reduceLT, Int.reduceLE, cF4, cF6, cF8]) ?_
            refine w_upto 1 rfl (by simp (disch := (apply Apart.mk; decide)) only [go_sem, Nat.reduceAdd, Nat.reduceLT, Nat.reduceMul, Nat.reduceLeDiff, Int.reduceToNat, Int.reduceLT, Int.reduceLE, cF4, cF6, cF8]; rfl) ?_
            refine w_off (by simp (disch := (apply Apart.mk; decide)) only [go_sem, Nat.reduceAdd, Nat.reduceLT, Nat.reduceMul, Nat.reduceLeDiff, Int.reduceToNat, Int.reduceLT, Int.reduceLE, cF4, cF6, cF8]) ?_
            refine w_ops_end (by simp (disch := (apply Apart.mk; decide)) only [go_sem, Nat.reduceAdd, Nat.reduceLT, Nat.reduceMul, Nat.reduceLeDiff, Int.reduceToNat, Int.reduceLT, Int.reduceLE, cF4, cF6, cF8]; rfl) ?_
            obtain rfl : _ = v := hr
            exact w_k (To.cut hwf (Nat.le_refl _) rfl (by simp (disch := (apply Apart.mk; decide)) only [go_sem, Nat.reduceAdd, Nat.reduceLT, Nat.reduceMul, Nat.reduceLeDiff, Int.reduceToNat, Int.reduceLT, Int.reduceLE, cF4, cF6, cF8]))
        · refine w_upto 1 rfl (by simp (disch := (apply Apart.mk; decide)) only [go_sem, Nat.reduceAdd, Nat.reduceLT, Nat.reduceMul, Nat.reduceLeDiff, Int.reduceToNat, Int.reduceLT, Int.reduceLE, cF4, cF6]; rfl) ?_
          refine w_off (by simp (disch := (apply Apart.mk; decide)) only [go_sem, Nat.reduceAdd, Nat.reduceLT, Nat.reduceMul, Nat.reduceLeDiff, Int.reduceToNat, Int.reduceLT, Int.reduceLE, cF4, cF6]) ?_
          refine w_upto 6 rfl (by simp (disch := (apply Apart.mk; decide)) only [go_sem, Nat.reduceAdd, Nat.reduceLT, Nat.reduceMul, Nat.reduceLeDiff, Int.reduceToNat, Int.reduceLT, Int.reduceLE, cF4, cF6]; rfl) ?_
          refine w_off (by simp (disch := (apply Apart.mk; decide)) only [go_sem, Nat.reduceAdd, Nat.reduceLT, Nat.reduceMul, Nat.reduceLeDiff, Int.reduceToNat, Int.reduceLT, Int.reduceLE, cF4, cF6]) ?_
          refine w_upto 1 rfl (by simp (disch := (apply Apart.mk; decide)) only [go_sem, Nat.reduceAdd, Nat.reduceLT, Nat.reduceMul, Nat.reduceLeDiff, Int.reduceToNat, Int.reduceLT, Int.reduceLE, cF4, cF6]; rfl) ?_
          refine w_off (by simp (disch := (apply Apart.mk; decide)) only [go_sem, Nat.reduceAdd, Nat.reduceLT, Nat.reduceMul, Nat.reduceLeDiff, Int.reduceToNat, Int.reduceLT, Int.reduceLE, cF4, cF6]) ?_
          refine w_ops_end (by simp (disch := (apply Apart.mk; decide)) only [go_sem, Nat.reduceAdd, Nat.reduceLT, Nat.reduceMul, Nat.reduceLeDiff, Int.reduceToNat, Int.reduceLT, Int.reduceLE, cF4, cF6]; rfl) ?_
          obtain rfl : _ = v := hr
          exact w_k (To.cut hwf (Nat.le_refl _) rfl (by simp (disch := (apply Apart.mk; decide)) only [go_sem, Nat.reduceAdd, Nat.reduceLT, Nat.reduceMul, Nat.reduceLeDiff, Int.reduceToNat, Int.reduceLT, Int.reduceLE, cF4, cF6]))
      · refine w_upto 5 rfl (by simp (disch := (apply Apart.mk; decide)) only [go_sem, Nat.reduceAdd, Nat.reduceLT, Nat.reduceMul, Nat.reduceLeDiff, Int.reduceToNat, Int.reduceLT, Int.reduceLE, cF4]; rfl) ?_
        refine w_off (by simp (disch := (apply Apart.mk; decide)) only [go_sem, Nat.reduceAdd, Nat.reduceLT, Nat.reduceMul, Nat.reduceLeDiff, Int.reduceToNat, Int.reduceLT, Int.reduceLE, cF4]) ?_
        refine w_upto 4 rfl (by simp (disch := (apply Apart.mk; decide)) only [go_sem, Nat.reduceAdd, Nat.reduceLT, Nat.reduceMul, Nat.reduceLeDiff, Int.reduceToNat, Int.reduceLT, Int.reduceLE, cF4]; rfl) ?_
        refine w_off (by simp (disch := (apply Apart.mk; decide)) only [go_sem, Nat.reduceAdd, Nat.reduceLT, Nat.reduceMul, Nat.reduceLeDiff, Int.reduceToNat, Int.reduceLT, Int.reduceLE, cF4]) ?_
        refine w_upto 6 rfl (by simp (disch := (apply Apart.mk; decide)) only [go_sem, Nat.reduceAdd, Nat.reduceLT, Nat.reduceMul, Nat.reduceLeDiff, Int.reduceToNat, Int.reduceLT, Int.reduceLE, cF4]; rfl) ?_
        refine w_off (by simp (disch := (apply Apart.mk; decide)) only [go_sem, Nat.reduceAdd, Nat.reduceLT, Nat.reduceMul, Nat.reduceLeDiff, Int.reduceToNat, Int.reduceLT, Int.reduceLE, cF4]) ?_
        refine w_upto 1 rfl (by simp (disch := (apply Apart.mk; decide)) only [go_sem, Nat.reduceAdd, Nat.reduceLT, Nat.reduceMul, Nat.reduceLeDiff, Int.reduceToNat, Int.reduceLT, Int.reduceLE, cF4]; rfl) ?_
        refine w_off (by simp (disch := (apply Apart.mk; decide)) only [go_sem, Nat.reduceAdd, Nat.reduceLT, Nat.reduceMul, Nat.reduceLeDiff, Int.reduceToNat, Int.reduceLT, Int.reduceLE, cF4]) ?_
        refine w_ops_end (by simp (disch := (apply Apart.mk; decide)) only [go_sem, Nat.reduceAdd, Nat.reduceLT, Nat.reduceMul, Nat.reduceLeDiff, Int.reduceToNat, Int.reduceLT, Int.reduceLE, cF4]; rfl) ?_
        obtain rfl : _ = v := hr
        exact w_k (To.cut hwf (Nat.le_refl _) rfl (by simp (disch := (apply Apart.mk; decide)) only [go_sem, Nat.reduceAdd, Nat.reduceLT, Nat.reduceMul, Nat.reduceLeDiff, Int.reduceToNat, Int.reduceLT, Int.reduceLE, cF4]))
    refine w_ret ?_
    obtain rfl := hD _ hr
    exact (w_endR (To.cut (os' := []) (sl := [(0, .cv (.val (.bool v)))]) hwf (Nat.le_refl _) rfl (by simp (disch := (apply Apart.mk; decide)) only [go_sem, Nat.reduceAdd, Nat.reduceLT, Nat.reduceMul, Nat.reduceLeDiff, Int.reduceToNat, Int.reduceLT, Int.reduceLE])) (by simp (disch := (apply Apart.mk; decide)) only [go_sem, Nat.reduceAdd, Nat.reduceLT, Nat.reduceMul, Nat.reduceLeDiff, Int.reduceToNat, Int.reduceLT, Int.reduceLE, Try.results21, results_data CT_gives21, resCell, resVal.eq_2, loadOp_sv]) ⟨rfl, on_nil hwf⟩)
end Go.Val

/- part GW12 -/
/- scansion/scansionlaw18.DarrayWords runs as it is read off. -/
namespace Go.Val
set_option linter.unusedVariables false
set_option linter.unusedSimpArgs false
set_option maxRecDepth 20000
open Go.Proofs
theorem scansionlaw18_DarrayWords_runs (t : List Str) (o : List UInt8) {h : Heap} {a : Bool} (e : scansionlaw18_DarrayWords t o = some a) :
    Runs CT 12 [.cv (.val (.sl (List.map eS t))), .cv (.val (.sl (List.map eU o)))] h fun o h' => o = [.cv (.val (.bool a))] ∧ h' = h := by
  refine Runs.start Try.f12 _ Try.func12 rfl (by rw [Try.ntmps12]; simp) (by rfl) (by rfl) (fun hwf hu => ?_)
  obtain ⟨D, hD, hr⟩ : ∃ D : Bool → Prop, (∀ z, D z → z = a) ∧ Holds (scansionlaw18_DarrayWords t o) D := ⟨fun z => z = a, fun _ h => h, Holds.intro e rfl⟩
  dsimp only [scansionlaw18_DarrayWords] at hr
  change wpCode _ _ _ _ _ ⟨[(0, .cv (.val (.sl (List.map eS t)))), (1, .cv (.val (.sl (List.map eU o))))], h.on []⟩
  refine w_seq ?_
  refine w_region rfl (by simp (disch := (apply Apart.mk; decide)) only [go_sem, Nat.reduceAdd, Nat.reduceLT, Nat.reduceMul, Nat.reduceLeDiff, Int.reduceToNat, Int.reduceLT, Int.reduceLE]; rfl) ?_
  refine (w_n ?_)
  refine w_seq ?_
  refine w_ops rfl ?_
  obtain ⟨r, eF1, hr⟩ := hr.bind
  refine w_call' (out := ?o_eF1) (hp := ?p_eF1) rfl (by simp (disch := (apply Apart.mk; decide)) only [go_sem, Nat.reduceAdd, Nat.reduceLT, Nat.reduceMul, Nat.reduceLeDiff, Int.reduceToNat, Int.reduceLT, Int.reduceLE, Option.getD_some]; rfl) (by simp (disch := (apply Apart.mk; decide)) only [go_sem, Nat.reduceAdd, Nat.reduceLT, Nat.reduceMul, Nat.reduceLeDiff, Int.reduceToNat, Int.reduceLT, Int.reduceLE, Option.getD_some]; rfl) (by simp (disch := (apply Apart.mk; decide)) only [go_sem, Nat.reduceAdd, Nat.reduceLT, Nat.reduceMul, Nat.reduceLeDiff, Int.reduceToNat, Int.reduceLT, Int.reduceLE, Option.getD_some]; rfl) ?c_eF1 ?d_eF1 ?_
  case c_eF1 => exact scansionlaw18_awake_runs  eF1
  case d_eF1 => rfl
  refine w_ops_end (by simp (disch := (apply Apart.mk; decide)) only [go_sem, Nat.reduceAdd, Nat.reduceLT, Nat.reduceMul, Nat.reduceLeDiff, Int.reduceToNat, Int.reduceLT, Int.reduceLE]; rfl) ?_
  refine (w_n ?_)
  refine w_seq ?_
  refine w_joinR (sj := ⟨[(0, .cv (.val (.sl (List.map eS t)))), (1, .cv (.val (.sl (List.map eU o)))), (5, .cv (.val (.bool r))), (31, .cv (.val (.bool ((!r) || ((decide ((t.length : Int) > (40 : Int))) || (decide ((o.length : Int) > (100 : Int))))))))], h.on []⟩) (w_ops rfl ?_) ?_
  · refine w_upto 3 rfl (by simp (disch := (apply Apart.mk; decide)) only [go_sem, Nat.reduceAdd, Nat.reduceLT, Nat.reduceMul, Nat.reduceLeDiff, Int.reduceToNat, Int.reduceLT, Int.reduceLE]; rfl) ?_
    rcases Bool.eq_false_or_eq_true (!r) with cF2 | cF2
    · refine w_ops_end (by simp (disch := (apply Apart.mk; decide)) only [go_sem, Nat.reduceAdd, Nat.reduceLT, Nat.reduceMul, Nat.reduceLeDiff, Int.reduceToNat, Int.reduceLT, Int.reduceLE, cF2]; rfl) ?_
      exact w_k (To.cut hwf (Nat.le_refl _) rfl (by simp (disch := (apply Apart.mk; decide)) only [go_sem, Nat.reduceAdd, Nat.reduceLT, Nat.reduceMul, Nat.reduceLeDiff, Int.reduceToNat, Int.reduceLT, Int.reduceLE, cF2]))
    · refine w_upto 5 rfl (by simp (disch := (apply Apart.mk; decide)) only [go_sem, Nat.reduceAdd, Nat.reduceLT, Nat.reduceMul, Nat.reduceLeDiff, Int.reduceToNat, Int.reduceLT, Int.reduceLE, cF2]; rfl) ?_
      rcases Bool.eq_false_or_eq_true (decide ((t.length : Int) > (40 : Int))) with cF3 | cF3
      · refine w_ops_end (by simp (disch := (apply Apart.mk; decide)) only [go_sem, Nat.reduceAdd, Nat.reduceLT, Nat.reduceMul, Nat.reduceLeDiff, Int.reduceToNat, Int.reduceLT, Int.reduceLE, cF2, cF3]; rfl) ?_
        exact w_k (To.cut hwf (Nat.le_refl _) rfl (by simp (disch := (apply Apart.mk; decide)) only [go_sem, Nat.reduceAdd, Nat.reduceLT, Nat.reduceMul, Nat.reduceLeDiff, Int.reduceToNat, Int.reduceLT, Int.reduceLE, cF2, cF3]))
      · refine w_ops_end (by simp (disch := (apply Apart.mk; decide)) only [go_sem, Nat.reduceAdd, Nat.reduceLT, Nat.reduceMul, Nat.reduceLeDiff, Int.reduceToNat, Int.reduceLT, Int.reduceLE, cF2, cF3]; rfl) ?_
        exact w_k (To.cut hwf (Nat.le_refl _) rfl (by simp (disch := (apply Apart.mk; decide)) only [go_sem, Nat.reduceAdd, Nat.reduceLT, Nat.reduceMul, Nat.reduceLeDiff, Int.reduceToNat, Int.reduceLT, Int.reduceLE, cF2, cF3]))
  refine w_condH (by simp (disch := (apply Apart.mk; decide)) only [go_sem, Nat.reduceAdd, Nat.reduceLT, Nat.reduceMul, Nat.reduceLeDiff, Int.reduceToNat, Int.reduceLT, Int.reduceLE]) hr (fun cF4 hr => ?_) (fun cF4 hr => ?_)
  · refine w_seq ?_
    refine w_region rfl (by simp (disch := (apply Apart.mk; decide)) only [go_sem, Nat.reduceAdd, Nat.reduceLT, Nat.reduceMul, Nat.reduceLeDiff, Int.reduceToNat, Int.reduceLT, Int.reduceLE, cF4]; rfl) ?_
    refine (w_n ?_)
    refine w_ret ?_
    obtain rfl := hD _ hr
    exact (w_tr (w_endR (To.cut (os' := []) (sl := [(4, .cv (.val (.bool r)))]) hwf (Nat.le_refl _) rfl (by simp (disch := (apply Apart.mk; decide)) only [go_sem, Nat.reduceAdd, Nat.reduceLT, Nat.reduceMul, Nat.reduceLeDiff, Int.reduceToNat, Int.reduceLT, Int.reduceLE, cF4])) (by simp (disch := (apply Apart.mk; decide)) only [go_sem, Nat.reduceAdd, Nat.reduceLT, Nat.reduceMul, Nat.reduceLeDiff, Int.reduceToNat, Int.reduceLT, Int.reduceLE, Try.results12, results_data CT_gives12, resCell, resVal.eq_2, loadOp_sv, cF4]) ⟨rfl, on_nil hwf⟩))
  · refine w_skip ?_
    refine (w_n ?_)
    refine w_seq ?_
    refine w_seq ?_
    refine w_region rfl (by simp (disch := (apply Apart.mk; decide)) only [go_sem, Nat.reduceAdd, Nat.reduceLT, Nat.reduceMul, Nat.reduceLeDiff, Int.reduceToNat, Int.reduceLT, Int.reduceLE, cF4]; rfl) ?_
    refine (w_n ?_)
    refine w_K (D := D) (fun xX : Unit => ⟨[(0, .cv (.val (.sl (List.map eS t)))), (1, .cv (.val (.sl (List.map eU o))))], h.on []⟩) (fun xX : Unit => scansionlaw18_DarrayWords.k1 t o) (fun xX s' hr ht => ?_) ?_
    · dsimp only [scansionlaw18_DarrayWords.k1] at hr ht
      refine (w_nT ht ?_)
      refine w_seq ?_
      refine w_ops rfl ?_
      refine w_upto 1 rfl (by simp (disch := (apply Apart.mk; decide)) only [go_sem, Nat.reduceAdd, Nat.reduceLT, Nat.reduceMul, Nat.reduceLeDiff, Int.reduceToNat, Int.reduceLT, Int.reduceLE]; rfl) ?_
      obtain ⟨r1, eF5, hr⟩ := hr.bind
      refine w_call' (out := ?o_eF5) (hp := ?p_eF5) rfl (by simp (disch := (apply Apart.mk; decide)) only [go_sem, Nat.reduceAdd, Nat.reduceLT, Nat.reduceMul, Nat.reduceLeDiff, Int.reduceToNat, Int.reduceLT, Int.reduceLE, Option.getD_some]; rfl) (by simp (disch := (apply Apart.mk; decide)) only [go_sem, Nat.reduceAdd, Nat.reduceLT, Nat.reduceMul, Nat.reduceLeDiff, Int.reduceToNat, Int.reduceLT, Int.reduceLE, Option.getD_some]; rfl) (by simp (disch := (apply Apart.mk; decide)) only [go_sem, Nat.reduceAdd, Nat.reduceLT, Nat.reduceMul, Nat.reduceLeDiff, Int.reduceToNat, Int.reduceLT, Int.reduceLE, Option.getD_some]; rfl) ?c_eF5 ?d_eF5 ?_
      case c_eF5 => exact scansionref17_Rising_runs t eF5
      case d_eF5 => rfl
      refine w_ops_end (by simp (disch := (apply Apart.mk; decide)) only [go_sem, Nat.reduceAdd, Nat.reduceLT, Nat.reduceMul, Nat.reduceLeDiff, Int.reduceToNat, Int.reduceLT, Int.reduceLE]; rfl) ?_
      refine (w_n ?_)
      refine w_seq ?_
      refine w_ops rfl ?_
      refine w_upto 1 rfl (by simp (disch := (apply Apart.mk; decide)) only [go_sem, Nat.reduceAdd, Nat.reduceLT, Nat.reduceMul, Nat.reduceLeDiff, Int.reduceToNat, Int.reduceLT, Int.reduceLE]; rfl) ?_
      obtain ⟨r2, eF6, hr⟩ := hr.bind
      refine w_call' (out := ?o_eF6) (hp := ?p_eF6) rfl (by simp (disch := (apply Apart.mk; decide)) only [go_sem, Nat.reduceAdd, Nat.reduceLT, Nat.reduceMul, Nat.reduceLeDiff, Int.reduceToNat, Int.reduceLT, Int.reduceLE, Option.getD_some]; rfl) (by simp (disch := (apply Apart.mk; decide)) only [go_sem, Nat.reduceAdd, Nat.reduceLT, Nat.reduceMul, Nat.reduceLeDiff, Int.reduceToNat, Int.reduceLT, Int.reduceLE, Option.getD_some]; rfl) (by simp (disch := (apply Apart.mk; decide)) only [go_sem, Nat.reduceAdd, Nat.reduceLT, Nat.reduceMul, Nat.reduceLeDiff, Int.reduceToNat, Int.reduceLT, Int.reduceLE, Option.getD_some]; rfl) ?c_eF6 ?d_eF6 ?_
      case c_eF6 => exact scansionref17_Build_runs r1 eF6
      case d_eF6 => rfl
      refine w_ops_end (by simp (disch := (apply Apart.mk; decide)) only [go_sem, Nat.reduceAdd, Nat.reduceLT, Nat.reduceMul, Nat.reduceLeDiff, Int.reduceToNat, Int.reduceLT, Int.reduceLE]; rfl) ?_
      refine (w_n ?_)
      refine w_seq ?_
      refine w_ops rfl ?_
      refine w_upto 1 rfl (by simp (disch := (apply Apart.mk; decide)) only [go_sem, Nat.reduceAdd, Nat.reduceLT, Nat.reduceMul, Nat.reduceLeDiff, Int.reduceToNat, Int.reduceLT, Int.reduceLE]; rfl) ?_
      obtain ⟨r3, eF7, hr⟩ := hr.bind
      try dsimp only at hr
      rcases xF43 : r3.1 with _ | y
      · rw [xF43] at hr
        dsimp only at hr
        refine w_call' (out := ?o_eF7a) (hp := ?p_eF7a) rfl (by simp (disch := (apply Apart.mk; decide)) only [go_sem, Nat.reduceAdd, Nat.reduceLT, Nat.reduceMul, Nat.reduceLeDiff, Int.reduceToNat, Int.reduceLT, Int.reduceLE, Option.getD_some]; rfl) (by simp (disch := (apply Apart.mk; decide)) only [go_sem, Nat.reduceAdd, Nat.reduceLT, Nat.reduceMul, Nat.reduceLeDiff, Int.reduceToNat, Int.reduceLT, Int.reduceLE, Option.getD_some]; rfl) (by simp (disch := (apply Apart.mk; decide)) only [go_sem, Nat.reduceAdd, Nat.reduceLT, Nat.reduceMul, Nat.reduceLeDiff, Int.reduceToNat, Int.reduceLT, Int.reduceLE, Option.getD_some]; rfl) ?c_eF7a ?d_eF7a ?_
        case c_eF7a => exact darray_Pack_runs_none r2.1 eF7 xF43
        case d_eF7a => rfl
        refine w_ops_end (by simp (disch := (apply Apart.mk; decide)) only [go_sem, Nat.reduceAdd, Nat.reduceLT, Nat.reduceMul, Nat.reduceLeDiff, Int.reduceToNat, Int.reduceLT, Int.reduceLE]; rfl) ?_
        refine (w_n ?_)
        refine w_seq ?_
        refine w_joinR (sj := ⟨[(1, .cv (.val (.sl (List.map eU o)))), (7, .cv (.val (.sl (List.map eS r1)))), (10, .cv (.val (.ptr none))), (73, .cv (.val (.bool true)))], h.on []⟩) (w_ops rfl ?_) ?_
        · refine w_upto 3 rfl (by simp (disch := (apply Apart.mk; decide)) only [go_sem, Nat.reduceAdd, Nat.reduceLT, Nat.reduceMul, Nat.reduceLeDiff, Int.reduceToNat, Int.reduceLT, Int.reduceLE]; rfl) ?_
          rcases Bool.eq_false_or_eq_true (r2.2 != (0 : Int)) with cF8 | cF8
          · refine w_upto 9 rfl (by simp (disch := (apply Apart.mk; decide)) only [go_sem, Nat.reduceAdd, Nat.reduceLT, Nat.reduceMul, Nat.reduceLeDiff, Int.reduceToNat, Int.reduceLT, Int.reduceLE, cF8]; rfl) ?_
            refine w_off (by simp (disch := (apply Apart.mk; decide)) only [go_sem, Nat.reduceAdd, Nat.reduceLT, Nat.reduceMul, Nat.reduceLeDiff, Int.reduceToNat, Int.reduceLT, Int.reduceLE, cF8]) ?_
            refine w_ops_end (by simp (disch := (apply Apart.mk; decide)) only [go_sem, Nat.reduceAdd, Nat.reduceLT, Nat.reduceMul, Nat.reduceLeDiff, Int.reduceToNat, Int.reduceLT, Int.reduceLE, cF8]; rfl) ?_
            exact w_k (To.cut hwf (Nat.le_refl _) rfl (by simp (disch := (apply Apart.mk; decide)) only [go_sem, Nat.reduceAdd, Nat.reduceLT, Nat.reduceMul, Nat.reduceLeDiff, Int.reduceToNat, Int.reduceLT, Int.reduceLE, cF4, cF8]))
          · refine w_upto 4 rfl (by simp (disch := (apply Apart.mk; decide)) only [go_sem, Nat.reduceAdd, Nat.reduceLT, Nat.reduceMul, Nat.reduceLeDiff, Int.reduceToNat, Int.reduceLT, Int.reduceLE, cF8]; rfl) ?_
            rcases Bool.eq_false_or_eq_true (r3.2 != (0 : Int)) with cF9 | cF9
            · refine w_upto 5 rfl (by simp (disch := (apply Apart.mk; decide)) only [go_sem, Nat.reduceAdd, Nat.reduceLT, Nat.reduceMul, Nat.reduceLeDiff, Int.reduceToNat, Int.reduceLT, Int.reduceLE, cF8, cF9]; rfl) ?_
              refine w_off (by simp (disch := (apply Apart.mk; decide)) only [go_sem, Nat.reduceAdd, Nat.reduceLT, Nat.reduceMul, Nat.reduceLeDiff, Int.reduceToNat, Int.reduceLT, Int.reduceLE, cF8, cF9]) ?_
              refine w_ops_end (by simp (disch := (apply Apart.mk; decide)) only [go_sem, Nat.reduceAdd, Nat.reduceLT, Nat.reduceMul, Nat.reduceLeDiff, Int.reduceToNat, Int.reduceLT, Int.reduceLE, cF8, cF9]; rfl) ?_
              exact w_k (To.cut hwf (Nat.le_refl _) rfl (by simp (disch := (apply Apart.mk; decide)) only [go_sem, Nat.reduceAdd, Nat.reduceLT, Nat.reduceMul, Nat.reduceLeDiff, Int.reduceToNat, Int.reduceLT, Int.reduceLE, cF4, cF8, cF9]))
            · refine w_upto 5 rfl (by simp (disch := (apply Apart.mk; decide)) only [go_sem, Nat.reduceAdd, Nat.reduceLT, Nat.reduceMul, Nat.reduceLeDiff, Int.reduceToNat, Int.reduceLT, Int.reduceLE, cF8, cF9]; rfl) ?_
              refine w_off (by simp (disch := (apply Apart.mk; decide)) only [go_sem, Nat.reduceAdd, Nat.reduceLT, Nat.reduceMul, Nat.reduceLeDiff, Int.reduceToNat, Int.reduceLT, Int.reduceLE, cF8, cF9]) ?_
              refine w_ops_end (by simp (disch := (apply Apart.mk; decide)) only [go_sem, Nat.reduceAdd, Nat.reduceLT, Nat.reduceMul, Nat.reduceLeDiff, Int.reduceToNat, Int.reduceLT, Int.reduceLE, cF8, cF9]; rfl) ?_
              exact w_k (To.cut hwf (Nat.le_refl _) rfl (by simp (disch := (apply Apart.mk; decide)) only [go_sem, Nat.reduceAdd, Nat.reduceLT, Nat.reduceMul, Nat.reduceLeDiff, Int.reduceToNat, Int.reduceLT, Int.reduceLE, cF4, cF8, cF9]))
        refine w_cond (t := true) (by simp (disch := (apply Apart.mk; decide)) only [go_sem, Nat.reduceAdd, Nat.reduceLT, Nat.reduceMul, Nat.reduceLeDiff, Int.reduceToNat, Int.reduceLT, Int.reduceLE, cF4]) (fun _ => ?_) (fun cF10 => by cases cF10)
        refine w_seq ?_
        refine w_region rfl (by simp (disch := (apply Apart.mk; decide)) only [go_sem, Nat.reduceAdd, Nat.reduceLT, Nat.reduceMul, Nat.reduceLeDiff, Int.reduceToNat, Int.reduceLT, Int.reduceLE, cF4]; rfl) ?_
        refine (w_n ?_)
        refine w_ret ?_
        obtain rfl := hD _ hr
        exact (w_tr (w_endR (To.cut (os' := []) (sl := [(4, .cv (.val (.bool false)))]) hwf (Nat.le_refl _) rfl (by simp (disch := (apply Apart.mk; decide)) only [go_sem, Nat.reduceAdd, Nat.reduceLT, Nat.reduceMul, Nat.reduceLeDiff, Int.reduceToNat, Int.reduceLT, Int.reduceLE, cF4])) (by simp (disch := (apply Apart.mk; decide)) only [go_sem, Nat.reduceAdd, Nat.reduceLT, Nat.reduceMul, Nat.reduceLeDiff, Int.reduceToNat, Int.reduceLT, Int.reduceLE, Try.results12, results_data CT_gives12, resCell, resVal.eq_2, loadOp_sv, cF4]) ⟨rfl, on_nil hwf⟩))
      · rw [xF43] at hr
        dsimp only at hr
        refine w_call' (out := ?o_eF7b) (hp := ?p_eF7b) rfl (by simp (disch := (apply Apart.mk; decide)) only [go_sem, Nat.reduceAdd, Nat.reduceLT, Nat.reduceMul, Nat.reduceLeDiff, Int.reduceToNat, Int.reduceLT, Int.reduceLE, Option.getD_some]; rfl) (by simp (disch := (apply Apart.mk; decide)) only [go_sem, Nat.reduceAdd, Nat.reduceLT, Nat.reduceMul, Nat.reduceLeDiff, Int.reduceToNat, Int.reduceLT, Int.reduceLE, Option.getD_some]; rfl) (by simp (disch := (apply Apart.mk; decide)) only [go_sem, Nat.reduceAdd, Nat.reduceLT, Nat.reduceMul, Nat.reduceLeDiff, Int.reduceToNat, Int.reduceLT, Int.reduceLE, Option.getD_some]; rfl) ?c_eF7b ?d_eF7b ?_
        case c_eF7b => exact darray_Pack_runs_some r2.1 eF7 xF43
        case d_eF7b => rfl
        refine w_ops_end (by simp (disch := (apply Apart.mk; decide)) only [go_sem, Nat.reduceAdd, Nat.reduceLT, Nat.reduceMul, Nat.reduceLeDiff, Int.reduceToNat, Int.reduceLT, Int.reduceLE]; rfl) ?_
        refine (w_n ?_)
        refine w_seq ?_
        obtain ⟨v1, vF14, hr⟩ := hr.bind
        refine w_joinR (sj := ⟨[(1, .cv (.val (.sl (List.map eU o)))), (7, .cv (.val (.sl (List.map eS r1)))), (10, .cv (.val (.ptr (some (h.n + 2, 0))))), (73, .cv (.val (.bool v1)))], h.on [none, none, some (.cells [.val (.sl (List.map eB y.graph.Final)), .val (.sl (List.map (eL eEdge) y.graph.Edges)), .row 3 (List.map eI y.base), .row 91 (List.map edarray_cell y.cells), .val (.sl (List.map eI y.count))])]⟩) (w_ops rfl ?_) ?_
        · have hr := Holds.intro (D := fun z => z = v1) vF14 rfl
          refine w_upto 3 rfl (by simp (disch := (apply Apart.mk; decide)) only [go_sem, Nat.reduceAdd, Nat.reduceLT, Nat.reduceMul, Nat.reduceLeDiff, Int.reduceToNat, Int.reduceLT, Int.reduceLE]; rfl) ?_
          rcases hr.ite with ⟨cF11, hr⟩ | ⟨cF11, hr⟩
          · refine w_upto 9 rfl (by simp (disch := (apply Apart.mk; decide)) only [go_sem, Nat.reduceAdd, Nat.reduceLT, Nat.reduceMul, Nat.reduceLeDiff, Int.reduceToNat, Int.reduceLT, Int.reduceLE, cF11]; rfl) ?_
            refine w_off (by simp (disch := (apply Apart.mk; decide)) only [go_sem, Nat.reduceAdd, Nat.reduceLT, Nat.reduceMul, Nat.reduceLeDiff, Int.reduceToNat, Int.reduceLT, Int.reduceLE, cF11]) ?_
            refine w_ops_end (by simp (disch := (apply Apart.mk; decide)) only [go_sem, Nat.reduceAdd, Nat.reduceLT, Nat.reduceMul, Nat.reduceLeDiff, Int.reduceToNat, Int.reduceLT, Int.reduceLE, cF11]; rfl) ?_
            obtain rfl : _ = v1 := hr
            exact w_k (To.cut hwf (Nat.le_refl _) rfl (by simp (disch := (apply Apart.mk; decide)) only [go_sem, Nat.reduceAdd, Nat.reduceLT, Nat.reduceMul, Nat.reduceLeDiff, Int.reduceToNat, Int.reduceLT, Int.reduceLE, cF4, cF11]))
          · refine w_upto 4 rfl (by simp (disch := (apply Apart.mk; decide)) only [go_sem, Nat.reduceAdd, Nat.reduceLT, Nat.reduceMul, Nat.reduceLeDiff, Int.reduceToNat, Int.reduceLT, Int.reduceLE, cF11]; rfl) ?_
            rcases hr.ite with ⟨cF12, hr⟩ | ⟨cF12, hr⟩
            · refine w_upto 5 rfl (by simp (disch := (apply Apart.mk; decide)) only [go_sem, Nat.reduceAdd, Nat.reduceLT, Nat.reduceMul, Nat.reduceLeDiff, Int.reduceToNat, Int.reduceLT, Int.reduceLE, cF11, cF12]; rfl) ?_
              refine w_off (by simp (disch := (apply Apart.mk; decide)) only [go_sem, Nat.reduceAdd, Nat.reduceLT, Nat.reduceMul, Nat.reduceLeDiff, Int.reduceToNat, Int.reduceLT, Int.reduceLE, cF11, cF12]) ?_
              refine w_ops_end (by simp (disch := (apply Apart.mk; decide)) only [go_sem, Nat.reduceAdd, Nat.reduceLT, Nat.reduceMul, Nat.reduceLeDiff, Int.reduceToNat, Int.reduceLT, Int.reduceLE, cF11, cF12]; rfl) ?_
              obtain rfl : _ = v1 := hr
              exact w_k (To.cut hwf (Nat.le_refl _) rfl (by simp (disch := (apply Apart.mk; decide)) only [go_sem, Nat.reduceAdd, Nat.reduceLT, Nat.reduceMul, Nat.reduceLeDiff, Int.reduceToNat, Int.reduceLT, Int.reduceLE, cF4, cF11, cF12]))
            · refine w_upto 5 rfl (by simp (disch := (apply Apart.mk; decide)) only [go_sem, Nat.reduceAdd, Nat.reduceLT, Nat.reduceMul, Nat.reduceLeDiff, Int.reduceToNat, Int.reduceLT, Int.reduceLE, cF11, cF12]; rfl) ?_
              obtain ⟨r4, eF13, hr⟩ := hr.bind
              refine w_call' (out := ?o_eF13) (hp := ?p_eF13) (by simp (disch := (apply Apart.mk; decide)) only [go_sem, Nat.reduceAdd, Nat.reduceLT, Nat.reduceMul, Nat.reduceLeDiff, Int.reduceToNat, Int.reduceLT, Int.reduceLE, Option.getD_some, cF11, cF12]) (by simp (disch := (apply Apart.mk; decide)) only [go_sem, Nat.reduceAdd, Nat.reduceLT, Nat.reduceMul, Nat.reduceLeDiff, Int.reduceToNat, Int.reduceLT, Int.reduceLE, Option.getD_some, cF11, cF12]; rfl) (by simp (disch := (apply Apart.mk; decide)) only [go_sem, Nat.reduceAdd, Nat.reduceLT, Nat.reduceMul, Nat.reduceLeDiff, Int.reduceToNat, Int.reduceLT, Int.reduceLE, Option.getD_some, cF11, cF12]; rfl) (by simp (disch := (apply Apart.mk; decide)) only [go_sem, Nat.reduceAdd, Nat.reduceLT, Nat.reduceMul, Nat.reduceLeDiff, Int.reduceToNat, Int.reduceLT, Int.reduceLE, Option.getD_some, cF11, cF12]; rfl) ?c_eF13 ?d_eF13 ?_
              case c_eF13 => (refine darray_Array_Words_runs y (h.n + 2) ?_ eF13; (simp (disch := (apply Apart.mk; decide)) only [go_sem, Nat.reduceAdd, Nat.reduceLT, Nat.reduceMul, Nat.reduceLeDiff, Int.reduceToNat, Int.reduceLT, Int.reduceLE]))
              case d_eF13 => rfl
              refine w_ops_end (by simp (disch := (apply Apart.mk; decide)) only [go_sem, Nat.reduceAdd, Nat.reduceLT, Nat.reduceMul, Nat.reduceLeDiff, Int.reduceToNat, Int.reduceLT, Int.reduceLE, cF11, cF12]; rfl) ?_
              obtain rfl : _ = v1 := hr
              exact w_k (To.cut hwf (Nat.le_refl _) rfl (by simp (disch := (apply Apart.mk; decide)) only [go_sem, Nat.reduceAdd, Nat.reduceLT, Nat.reduceMul, Nat.reduceLeDiff, Int.reduceToNat, Int.reduceLT, Int.reduceLE, cF4, cF11, cF12]))
        refine w_condH (by simp (disch := (apply Apart.mk; decide)) only [go_sem, Nat.reduceAdd, Nat.reduceLT, Nat.reduceMul, Nat.reduceLeDiff, Int.reduceToNat, Int.reduceLT, Int.reduceLE, cF4]) hr (fun cF15 hr => ?_) (fun cF15 hr => ?_)
        · refine w_seq ?_
          refine w_region rfl (by simp (disch := (apply Apart.mk; decide)) only [go_sem, Nat.reduceAdd, Nat.reduceLT, Nat.reduceMul, Nat.reduceLeDiff, Int.reduceToNat, Int.reduceLT, Int.reduceLE, cF4, cF15]; rfl) ?_
          refine (w_n ?_)
          refine w_ret ?_
          obtain rfl := hD _ hr
          exact (w_tr (w_endR (To.cut (os' := []) (sl := [(4, .cv (.val (.bool false)))]) hwf (Nat.le_refl _) rfl (by simp (disch := (apply Apart.mk; decide)) only [go_sem, Nat.reduceAdd, Nat.reduceLT, Nat.reduceMul, Nat.reduceLeDiff, Int.reduceToNat, Int.reduceLT, Int.reduceLE, cF4, cF15])) (by simp (disch := (apply Apart.mk; decide)) only [go_sem, Nat.reduceAdd, Nat.reduceLT, Nat.reduceMul, Nat.reduceLeDiff, Int.reduceToNat, Int.reduceLT, Int.reduceLE, Try.results12, results_data CT_gives12, resCell, resVal.eq_2, loadOp_sv, cF4, cF15]) ⟨rfl, on_nil hwf⟩))
        · refine w_skip ?_
          refine (w_n ?_)
          refine w_seq ?_
          refine w_ops rfl ?_
          refine w_upto 1 rfl (by simp (disch := (apply Apart.mk; decide)) only [go_sem, Nat.reduceAdd, Nat.reduceLT, Nat.reduceMul, Nat.reduceLeDiff, Int.reduceToNat, Int.reduceLT, Int.reduceLE]; rfl) ?_
          obtain ⟨r5, eF16, hr⟩ := hr.bind
          refine w_call' (out := ?o_eF16) (hp := ?p_eF16) rfl (by simp (disch := (apply Apart.mk; decide)) only [go_sem, Nat.reduceAdd, Nat.reduceLT, Nat.reduceMul, Nat.reduceLeDiff, Int.reduceToNat, Int.reduceLT, Int.reduceLE, Option.getD_some]; rfl) (by simp (disch := (apply Apart.mk; decide)) only [go_sem, Nat.reduceAdd, Nat.reduceLT, Nat.reduceMul, Nat.reduceLeDiff, Int.reduceToNat, Int.reduceLT, Int.reduceLE, Option.getD_some]; rfl) (by simp (disch := (apply Apart.mk; decide)) only [go_sem, Nat.reduceAdd, Nat.reduceLT, Nat.reduceMul, Nat.reduceLeDiff, Int.reduceToNat, Int.reduceLT, Int.reduceLE, Option.getD_some]; rfl) ?c_eF16 ?d_eF16 ?_
          case c_eF16 => (refine darray_Array_Save_runs y (h.n + 2) ?_ eF16; (simp (disch := (apply Apart.mk; decide)) only [go_sem, Nat.reduceAdd, Nat.reduceLT, Nat.reduceMul, Nat.reduceLeDiff, Int.reduceToNat, Int.reduceLT, Int.reduceLE]))
          case d_eF16 => rfl
          obtain ⟨r6, eF17, hr⟩ := hr.bind
          try dsimp only at hr
          rcases xF42 : r6.1 with _ | y1
          · rw [xF42] at hr
            dsimp only at hr
            refine w_call' (out := ?o_eF17a) (hp := ?p_eF17a) rfl (by simp (disch := (apply Apart.mk; decide)) only [go_sem, Nat.reduceAdd, Nat.reduceLT, Nat.reduceMul, Nat.reduceLeDiff, Int.reduceToNat, Int.reduceLT, Int.reduceLE, Option.getD_some]; rfl) (by simp (disch := (apply Apart.mk; decide)) only [go_sem, Nat.reduceAdd, Nat.reduceLT, Nat.reduceMul, Nat.reduceLeDiff, Int.reduceToNat, Int.reduceLT, Int.reduceLE, Option.getD_some]; rfl) (by simp (disch := (apply Apart.mk; decide)) only [go_sem, Nat.reduceAdd, Nat.reduceLT, Nat.reduceMul, Nat.reduceLeDiff, Int.reduceToNat, Int.reduceLT, Int.reduceLE, Option.getD_some]; rfl) ?c_eF17a ?d_eF17a ?_
            case c_eF17a => exact darray_Load_runs_none r5 eF17 xF42
            case d_eF17a => rfl
            refine w_ops_end (by simp (disch := (apply Apart.mk; decide)) only [go_sem, Nat.reduceAdd, Nat.reduceLT, Nat.reduceMul, Nat.reduceLeDiff, Int.reduceToNat, Int.reduceLT, Int.reduceLE]; rfl) ?_
            refine (w_n ?_)
            refine w_seq ?_
            refine w_joinR (sj := ⟨[(1, .cv (.val (.sl (List.map eU o)))), (7, .cv (.val (.sl (List.map eS r1)))), (10, .cv (.val (.ptr (some (h.n + 2, 0))))), (12, .cv (.val (.ptr none))), (85, .cv (.val (.bool true)))], h.on [none, none, some (.cells [.val (.sl (List.map eB y.graph.Final)), .val (.sl (List.map (eL eEdge) y.graph.Edges)), .row 3 (List.map eI y.base), .row 91 (List.map edarray_cell y.cells), .val (.sl (List.map eI y.count))])]⟩) (w_ops rfl ?_) ?_
            · refine w_upto 3 rfl (by simp (disch := (apply Apart.mk; decide)) only [go_sem, Nat.reduceAdd, Nat.reduceLT, Nat.reduceMul, Nat.reduceLeDiff, Int.reduceToNat, Int.reduceLT, Int.reduceLE]; rfl) ?_
              rcases Bool.eq_false_or_eq_true (r6.2 != (0 : Int)) with cF18 | cF18
              · refine w_ops_end (by simp (disch := (apply Apart.mk; decide)) only [go_sem, Nat.reduceAdd, Nat.reduceLT, Nat.reduceMul, Nat.reduceLeDiff, Int.reduceToNat, Int.reduceLT, Int.reduceLE, cF18]; rfl) ?_
                exact w_k (To.cut hwf (Nat.le_refl _) rfl (by simp (disch := (apply Apart.mk; decide)) only [go_sem, Nat.reduceAdd, Nat.reduceLT, Nat.reduceMul, Nat.reduceLeDiff, Int.reduceToNat, Int.reduceLT, Int.reduceLE, cF4, cF15, cF18]))
              · refine w_ops_end (by simp (disch := (apply Apart.mk; decide)) only [go_sem, Nat.reduceAdd, Nat.reduceLT, Nat.reduceMul, Nat.reduceLeDiff, Int.reduceToNat, Int.reduceLT, Int.reduceLE, cF18]; rfl) ?_
                exact w_k (To.cut hwf (Nat.le_refl _) rfl (by simp (disch := (apply Apart.mk; decide)) only [go_sem, Nat.reduceAdd, Nat.reduceLT, Nat.reduceMul, Nat.reduceLeDiff, Int.reduceToNat, Int.reduceLT, Int.reduceLE, cF4, cF15, cF18]))
            refine w_cond (t := true) (by simp (disch := (apply Apart.mk; decide)) only [go_sem, Nat.reduceAdd, Nat.reduceLT, Nat.reduceMul, Nat.reduceLeDiff, Int.reduceToNat, Int.reduceLT, Int.reduceLE, cF4, cF15]) (fun _ => ?_) (fun cF19 => by cases cF19)
            refine w_seq ?_
            refine w_region rfl (by simp (disch := (apply Apart.mk; decide)) only [go_sem, Nat.reduceAdd, Nat.reduceLT, Nat.reduceMul, Nat.reduceLeDiff, Int.reduceToNat, Int.reduceLT, Int.reduceLE, cF4, cF15]; rfl) ?_
            refine (w_n ?_)
            refine w_ret ?_
            obtain rfl := hD _ hr
            exact (w_tr (w_endR (To.cut (os' := []) (sl := [(4, .cv (.val (.bool false)))]) hwf (Nat.le_refl _) rfl (by simp (disch := (apply Apart.mk; decide)) only [go_sem, Nat.reduceAdd, Nat.reduceLT, Nat.reduceMul, Nat.reduceLeDiff, Int.reduceToNat, Int.reduceLT, Int.reduceLE, cF4, cF15])) (by simp (disch := (apply Apart.mk; decide)) only [go_sem, Nat.reduceAdd, Nat.reduceLT, Nat.reduceMul, Nat.reduceLeDiff, Int.reduceToNat, Int.reduceLT, Int.reduceLE, Try.results12, results_data CT_gives12, resCell, resVal.eq_2, loadOp_sv, cF4, cF15]) ⟨rfl, on_nil hwf⟩))
          · rw [xF42] at hr
            dsimp only at hr
            refine w_call' (out := ?o_eF17b) (hp := ?p_eF17b) rfl (by simp (disch := (apply Apart.mk; decide)) only [go_sem, Nat.reduceAdd, Nat.reduceLT, Nat.reduceMul, Nat.reduceLeDiff, Int.reduceToNat, Int.reduceLT, Int.reduceLE, Option.getD_some]; rfl) (by simp (disch := (apply Apart.mk; decide)) only [go_sem, Nat.reduceAdd, Nat.reduceLT, Nat.reduceMul, Nat.reduceLeDiff, Int.reduceToNat, Int.reduceLT, Int.reduceLE, Option.getD_some]; rfl) (by simp (disch := (apply Apart.mk; decide)) only [go_sem, Nat.reduceAdd, Nat.reduceLT, Nat.reduceMul, Nat.reduceLeDiff, Int.reduceToNat, Int.reduceLT, Int.reduceLE, Option.getD_some]; rfl) ?c_eF17b ?d_eF17b ?_
            case c_eF17b => exact darray_Load_runs_some r5 eF17 xF42
            case d_eF17b => rfl
            refine w_ops_end (by simp (disch := (apply Apart.mk; decide)) only [go_sem, Nat.reduceAdd, Nat.reduceLT, Nat.reduceMul, Nat.reduceLeDiff, Int.reduceToNat, Int.reduceLT, Int.reduceLE]; rfl) ?_
            refine (w_n ?_)
            refine w_seq ?_
            refine w_joinR (sj := ⟨[(1, .cv (.val (.sl (List.map eU o)))), (7, .cv (.val (.sl (List.map eS r1)))), (10, .cv (.val (.ptr (some (h.n + 2, 0))))), (12, .cv (.val (.ptr (some (h.n + 6, 0))))), (85, .cv (.val (.bool (r6.2 != (0 : Int)))))], h.on [none, none, some (.cells [.val (.sl (List.map eB y.graph.Final)), .val (.sl (List.map (eL eEdge) y.graph.Edges)), .row 3 (List.map eI y.base), .row 91 (List.map edarray_cell y.cells), .val (.sl (List.map eI y.count))]), none, none, none, some (.cells [.val (.sl (List.map eB y1.graph.Final)), .val (.sl (List.map (eL eEdge) y1.graph.Edges)), .row 3 (List.map eI y1.base), .row 91 (List.map edarray_cell y1.cells), .val (.sl (List.map eI y1.count))])]⟩) (w_ops rfl ?_) ?_
            · refine w_upto 3 rfl (by simp (disch := (apply Apart.mk; decide)) only [go_sem, Nat.reduceAdd, Nat.reduceLT, Nat.reduceMul, Nat.reduceLeDiff, Int.reduceToNat, Int.reduceLT, Int.reduceLE]; rfl) ?_
              rcases Bool.eq_false_or_eq_true (r6.2 != (0 : Int)) with cF20 | cF20
              · refine w_ops_end (by simp (disch := (apply Apart.mk; decide)) only [go_sem, Nat.reduceAdd, Nat.reduceLT, Nat.reduceMul, Nat.reduceLeDiff, Int.reduceToNat, Int.reduceLT, Int.reduceLE, cF20]; rfl) ?_
                exact w_k (To.cut hwf (Nat.le_refl _) rfl (by simp (disch := (apply Apart.mk; decide)) only [go_sem, Nat.reduceAdd, Nat.reduceLT, Nat.reduceMul, Nat.reduceLeDiff, Int.reduceToNat, Int.reduceLT, Int.reduceLE, cF4, cF15, cF20]))
              · refine w_ops_end (by simp (disch := (apply Apart.mk; decide)) only [go_sem, Nat.reduceAdd, Nat.reduceLT, Nat.reduceMul, Nat.reduceLeDiff, Int.reduceToNat, Int.reduceLT, Int.reduceLE, cF20]; rfl) ?_
                exact w_k (To.cut hwf (Nat.le_refl _) rfl (by simp (disch := (apply Apart.mk; decide)) only [go_sem, Nat.reduceAdd, Nat.reduceLT, Nat.reduceMul, Nat.reduceLeDiff, Int.reduceToNat, Int.reduceLT, Int.reduceLE, cF4, cF15, cF20]))
            refine w_condH (by simp (disch := (apply Apart.mk; decide)) only [go_sem, Nat.reduceAdd, Nat.reduceLT, Nat.reduceMul, Nat.reduceLeDiff, Int.reduceToNat, Int.reduceLT, Int.reduceLE, cF4, cF15]) hr (fun cF21 hr => ?_) (fun cF21 hr => ?_)
            · refine w_seq ?_
              refine w_region rfl (by simp (disch := (apply Apart.mk; decide)) only [go_sem, Nat.reduceAdd, Nat.reduceLT, Nat.reduceMul, Nat.reduceLeDiff, Int.reduceToNat, Int.reduceLT, Int.reduceLE, cF4, cF15, cF21]; rfl) ?_
              refine (w_n ?_)
              refine w_ret ?_
              obtain rfl := hD _ hr
              exact (w_tr (w_endR (To.cut (os' := []) (sl := [(4, .cv (.val (.bool false)))]) hwf (Nat.le_refl _) rfl (by simp (disch := (apply Apart.mk; decide)) only [go_sem, Nat.reduceAdd, Nat.reduceLT, Nat.reduceMul, Nat.reduceLeDiff, Int.reduceToNat, Int.reduceLT, Int.reduceLE, cF4, cF15, cF21])) (by simp (disch := (apply Apart.mk; decide)) only [go_sem, Nat.reduceAdd, Nat.reduceLT, Nat.reduceMul, Nat.reduceLeDiff, Int.reduceToNat, Int.reduceLT, Int.reduceLE, Try.results12, results_data CT_gives12, resCell, resVal.eq_2, loadOp_sv, cF4, cF15, cF21]) ⟨rfl, on_nil hwf⟩))
            · refine w_skip ?_
              refine (w_n ?_)
              refine w_seq ?_
              refine w_region rfl (by simp (disch := (apply Apart.mk; decide)) only [go_sem, Nat.reduceAdd, Nat.reduceLT, Nat.reduceMul, Nat.reduceLeDiff, Int.reduceToNat, Int.reduceLT, Int.reduceLE, cF4, cF15, cF21]; rfl) ?_
              refine (w_n ?_)
              refine w_seq ?_
              refine w_seq ?_
              refine w_region rfl (by simp (disch := (apply Apart.mk; decide)) only [go_sem, Nat.reduceAdd, Nat.reduceLT, Nat.reduceMul, Nat.reduceLeDiff, Int.reduceToNat, Int.reduceLT, Int.reduceLE, cF4, cF15, cF21]; rfl) ?_
              refine (w_n ?_)
              refine w_K (D := D) (fun xX : List Int => ⟨[(1, .cv (.val (.sl (List.map eU o)))), (10, .cv (.val (.ptr (some (h.n + 2, 0))))), (12, .cv (.val (.ptr (some (h.n + 6, 0))))), (14, .cv (.row 3 (List.map eI xX)))], h.on [none, none, some (.cells [.val (.sl (List.map eB y.graph.Final)), .val (.sl (List.map (eL eEdge) y.graph.Edges)), .row 3 (List.map eI y.base), .row 91 (List.map edarray_cell y.cells), .val (.sl (List.map eI y.count))]), none, none, none, some (.cells [.val (.sl (List.map eB y1.graph.Final)), .val (.sl (List.map (eL eEdge) y1.graph.Edges)), .row 3 (List.map eI y1.base), .row 91 (List.map edarray_cell y1.cells), .val (.sl (List.map eI y1.count))])]⟩) (fun xX : List Int => scansionlaw18_DarrayWords.k2 o y y1 xX) (fun xX s' hr ht => ?_) ?_
              · obtain ⟨v3, rfl⟩ : ∃ z, z = xX := ⟨xX, rfl⟩
                dsimp only [scansionlaw18_DarrayWords.k2] at hr ht
                refine (w_nT ht ?_)
                obtain ⟨r11, vF27, hr⟩ := hr.bind
                refine w_joinR (sj := ⟨[(4, .cv (.val (.bool r11)))], h.on []⟩) (w_ops rfl ?_) ?_
                · have hr := Holds.intro (D := fun z => z = r11) vF27 rfl
                  refine w_upto 2 rfl (by simp (disch := (apply Apart.mk; decide)) only [go_sem, Nat.reduceAdd, Nat.reduceLT, Nat.reduceMul, Nat.reduceLeDiff, Int.reduceToNat, Int.reduceLT, Int.reduceLE]; rfl) ?_
                  obtain ⟨r7, eF22, hr⟩ := hr.bind
                  refine w_call' (out := ?o_eF22) (hp := ?p_eF22) rfl (by simp (disch := (apply Apart.mk; decide)) only [go_sem, Nat.reduceAdd, Nat.reduceLT, Nat.reduceMul, Nat.reduceLeDiff, Int.reduceToNat, Int.reduceLT, Int.reduceLE, Option.getD_some]; rfl) (by simp (disch := (apply Apart.mk; decide)) only [go_sem, Nat.reduceAdd, Nat.reduceLT, Nat.reduceMul, Nat.reduceLeDiff, Int.reduceToNat, Int.reduceLT, Int.reduceLE, Option.getD_some]; rfl) (by simp (disch := (apply Apart.mk; decide)) only [go_sem, Nat.reduceAdd, Nat.reduceLT, Nat.reduceMul, Nat.reduceLeDiff, Int.reduceToNat, Int.reduceLT, Int.reduceLE, Option.getD_some]; rfl) ?c_eF22 ?d_eF22 ?_
                  case c_eF22 => (refine darray_Array_Prefixes_runs y o (h.n + 2) ?_ eF22; (simp (disch := (apply Apart.mk; decide)) only [go_sem, Nat.reduceAdd, Nat.reduceLT, Nat.reduceMul, Nat.reduceLeDiff, Int.reduceToNat, Int.reduceLT, Int.reduceLE]))
                  case d_eF22 => rfl
                  refine w_upto 1 rfl (by simp (disch := (apply Apart.mk; decide)) only [go_sem, Nat.reduceAdd, Nat.reduceLT, Nat.reduceMul, Nat.reduceLeDiff, Int.reduceToNat, Int.reduceLT, Int.reduceLE]; rfl) ?_
                  obtain ⟨r8, eF23, hr⟩ := hr.bind
                  refine w_call' (out := ?o_eF23) (hp := ?p_eF23) rfl (by simp (disch := (apply Apart.mk; decide)) only [go_sem, Nat.reduceAdd, Nat.reduceLT, Nat.reduceMul, Nat.reduceLeDiff, Int.reduceToNat, Int.reduceLT, Int.reduceLE, Option.getD_some]; rfl) (by simp (disch := (apply Apart.mk; decide)) only [go_sem, Nat.reduceAdd, Nat.reduceLT, Nat.reduceMul, Nat.reduceLeDiff, Int.reduceToNat, Int.reduceLT, Int.reduceLE, Option.getD_some]; rfl) (by simp (disch := (apply Apart.mk; decide)) only [go_sem, Nat.reduceAdd, Nat.reduceLT, Nat.reduceMul, Nat.reduceLeDiff, Int.reduceToNat, Int.reduceLT, Int.reduceLE, Option.getD_some]; rfl) ?c_eF23 ?d_eF23 ?_
                  case c_eF23 => exact scansionref01_SameInts_runs r7 v3 eF23
                  case d_eF23 => rfl
                  refine w_upto 1 rfl (by simp (disch := (apply Apart.mk; decide)) only [go_sem, Nat.reduceAdd, Nat.reduceLT, Nat.reduceMul, Nat.reduceLeDiff, Int.reduceToNat, Int.reduceLT, Int.reduceLE]; rfl) ?_
                  rcases hr.ite with ⟨cF24, hr⟩ | ⟨cF24, hr⟩
                  · refine w_upto 2 rfl (by simp (disch := (apply Apart.mk; decide)) only [go_sem, Nat.reduceAdd, Nat.reduceLT, Nat.reduceMul, Nat.reduceLeDiff, Int.reduceToNat, Int.reduceLT, Int.reduceLE, cF24]; rfl) ?_
                    obtain ⟨r9, eF25, hr⟩ := hr.bind
                    refine w_call' (out := ?o_eF25) (hp := ?p_eF25) (by simp (disch := (apply Apart.mk; decide)) only [go_sem, Nat.reduceAdd, Nat.reduceLT, Nat.reduceMul, Nat.reduceLeDiff, Int.reduceToNat, Int.reduceLT, Int.reduceLE, Option.getD_some, cF24]) (by simp (disch := (apply Apart.mk; decide)) only [go_sem, Nat.reduceAdd, Nat.reduceLT, Nat.reduceMul, Nat.reduceLeDiff, Int.reduceToNat, Int.reduceLT, Int.reduceLE, Option.getD_some, cF24]; rfl) (by simp (disch := (apply Apart.mk; decide)) only [go_sem, Nat.reduceAdd, Nat.reduceLT, Nat.reduceMul, Nat.reduceLeDiff, Int.reduceToNat, Int.reduceLT, Int.reduceLE, Option.getD_some, cF24]; rfl) (by simp (disch := (apply Apart.mk; decide)) only [go_sem, Nat.reduceAdd, Nat.reduceLT, Nat.reduceMul, Nat.reduceLeDiff, Int.reduceToNat, Int.reduceLT, Int.reduceLE, Option.getD_some, cF24]; rfl) ?c_eF25 ?d_eF25 ?_
                    case c_eF25 => (refine darray_Array_Prefixes_runs y1 o (h.n + 6) ?_ eF25; (simp (disch := (apply Apart.mk; decide)) only [go_sem, Nat.reduceAdd, Nat.reduceLT, Nat.reduceMul, Nat.reduceLeDiff, Int.reduceToNat, Int.reduceLT, Int.reduceLE]))
                    case d_eF25 => rfl
                    refine w_upto 1 rfl (by simp (disch := (apply Apart.mk; decide)) only [go_sem, Nat.reduceAdd, Nat.reduceLT, Nat.reduceMul, Nat.reduceLeDiff, Int.reduceToNat, Int.reduceLT, Int.reduceLE, cF24]; rfl) ?_
                    obtain ⟨r10, eF26, hr⟩ := hr.bind
                    refine w_call' (out := ?o_eF26) (hp := ?p_eF26) (by simp (disch := (apply Apart.mk; decide)) only [go_sem, Nat.reduceAdd, Nat.reduceLT, Nat.reduceMul, Nat.reduceLeDiff, Int.reduceToNat, Int.reduceLT, Int.reduceLE, Option.getD_some, cF24]) (by simp (disch := (apply Apart.mk; decide)) only [go_sem, Nat.reduceAdd, Nat.reduceLT, Nat.reduceMul, Nat.reduceLeDiff, Int.reduceToNat, Int.reduceLT, Int.reduceLE, Option.getD_some, cF24]; rfl) (by simp (disch := (apply Apart.mk; decide)) only [go_sem, Nat.reduceAdd, Nat.reduceLT, Nat.reduceMul, Nat.reduceLeDiff, Int.reduceToNat, Int.reduceLT, Int.reduceLE, Option.getD_some, cF24]; rfl) (by simp (disch := (apply Apart.mk; decide)) only [go_sem, Nat.reduceAdd, Nat.reduceLT, Nat.reduceMul, Nat.reduceLeDiff, Int.reduceToNat, Int.reduceLT, Int.reduceLE, Option.getD_some, cF24]; rfl) ?c_eF26 ?d_eF26 ?_
                    case c_eF26 => exact scansionref01_SameInts_runs r9 v3 eF26
                    case d_eF26 => rfl
                    refine w_ops_end (by simp (disch := (apply Apart.mk; decide)) only [go_sem, Nat.reduceAdd, Nat.reduceLT, Nat.reduceMul, Nat.reduceLeDiff, Int.reduceToNat, Int.reduceLT, Int.reduceLE, cF24]; rfl) ?_
                    obtain rfl : _ = r11 := hr
                    exact w_k (To.cut hwf (Nat.le_refl _) rfl (by simp (disch := (apply Apart.mk; decide)) only [go_sem, Nat.reduceAdd, Nat.reduceLT, Nat.reduceMul, Nat.reduceLeDiff, Int.reduceToNat, Int.reduceLT, Int.reduceLE, cF4, cF15, cF21, cF24]))
                  · refine w_upto 2 rfl (by simp (disch := (apply Apart.mk; decide)) only [go_sem, Nat.reduceAdd, Nat.reduceLT, Nat.reduceMul, Nat.reduceLeDiff, Int.reduceToNat, Int.reduceLT, Int.reduceLE, cF24]; rfl) ?_
                    refine w_off (by simp (disch := (apply Apart.mk; decide)) only [go_sem, Nat.reduceAdd, Nat.reduceLT, Nat.reduceMul, Nat.reduceLeDiff, Int.reduceToNat, Int.reduceLT, Int.reduceLE, cF24]) ?_
                    refine w_upto 1 rfl (by simp (disch := (apply Apart.mk; decide)) only [go_sem, Nat.reduceAdd, Nat.reduceLT, Nat.reduceMul, Nat.reduceLeDiff, Int.reduceToNat, Int.reduceLT, Int.reduceLE, cF24]; rfl) ?_
                    refine w_off (by simp (disch := (apply Apart.mk; decide)) only [go_sem, Nat.reduceAdd, Nat.reduceLT, Nat.reduceMul, Nat.reduceLeDiff, Int.reduceToNat, Int.reduceLT, Int.reduceLE, cF24]) ?_
                    refine w_ops_end (by simp (disch := (apply Apart.mk; decide)) only [go_sem, Nat.reduceAdd, Nat.reduceLT, Nat.reduceMul, Nat.reduceLeDiff, Int.reduceToNat, Int.reduceLT, Int.reduceLE, cF24]; rfl) ?_
                    obtain rfl : _ = r11 := hr
                    exact w_k (To.cut hwf (Nat.le_refl _) rfl (by simp (disch := (apply Apart.mk; decide)) only [go_sem, Nat.reduceAdd, Nat.reduceLT, Nat.reduceMul, Nat.reduceLeDiff, Int.reduceToNat, Int.reduceLT, Int.reduceLE, cF4, cF15, cF21, cF24]))
                refine w_ret ?_
                obtain rfl := hD _ hr
                exact (w_endR (To.cut (os' := []) (sl := [(4, .cv (.val (.bool r11)))]) hwf (Nat.le_refl _) rfl (by simp (disch := (apply Apart.mk; decide)) only [go_sem, Nat.reduceAdd, Nat.reduceLT, Nat.reduceMul, Nat.reduceLeDiff, Int.reduceToNat, Int.reduceLT, Int.reduceLE, cF4, cF15, cF21])) (by simp (disch := (apply Apart.mk; decide)) only [go_sem, Nat.reduceAdd, Nat.reduceLT, Nat.reduceMul, Nat.reduceLeDiff, Int.reduceToNat, Int.reduceLT, Int.reduceLE, Try.results12, results_data CT_gives12, resCell, resVal.eq_2, loadOp_sv, cF4, cF15, cF21]) ⟨rfl, on_nil hwf⟩)
              · refine w_block ?_
                refine w_Loop (fun xX : (List Int × Int) => ⟨[(1, .cv (.val (.sl (List.map eU o)))), (7, .cv (.val (.sl (List.map eS r1)))), (10, .cv (.val (.ptr (some (h.n + 2, 0))))), (12, .cv (.val (.ptr (some (h.n + 6, 0))))), (14, .cv (.row 3 (List.map eI xX.1))), (15, .cv (.val (.int .i64 xX.2)))], h.on [none, none, some (.cells [.val (.sl (List.map eB y.graph.Final)), .val (.sl (List.map (eL eEdge) y.graph.Edges)), .row 3 (List.map eI y.base), .row 91 (List.map edarray_cell y.cells), .val (.sl (List.map eI y.count))]), none, none, none, some (.cells [.val (.sl (List.map eB y1.graph.Final)), .val (.sl (List.map (eL eEdge) y1.graph.Edges)), .row 3 (List.map eI y1.base), .row 91 (List.map edarray_cell y1.cells), .val (.sl (List.map eI y1.count))])]⟩) hr (To.cut hwf (Nat.le_refl _) rfl (by simp (disch := (apply Apart.mk; decide)) only [go_sem, Nat.reduceAdd, Nat.reduceLT, Nat.reduceMul, Nat.reduceLeDiff, Int.reduceToNat, Int.reduceLT, Int.reduceLE, cF4, cF15, cF21])) (fun W1 xX hr => ?_)
                obtain ⟨v4, v5⟩ := xX
                dsimp only [scansionlaw18_DarrayWords.b1] at hr
                refine w_seq ?_
                refine w_seq ?_
                refine w_region rfl (by simp (disch := (apply Apart.mk; decide)) only [go_sem, Nat.reduceAdd, Nat.reduceLT, Nat.reduceMul, Nat.reduceLeDiff, Int.reduceToNat, Int.reduceLT, Int.reduceLE, cF4, cF15, cF21]; rfl) ?_
                refine (w_n ?_)
                refine w_condH (by simp (disch := (apply Apart.mk; decide)) only [go_sem, Nat.reduceAdd, Nat.reduceLT, Nat.reduceMul, Nat.reduceLeDiff, Int.reduceToNat, Int.reduceLT, Int.reduceLE, cF4, cF15, cF21]) hr (fun cF28 hr => ?_) (fun cF28 hr => ?_)
                · refine w_skip ?_
                  refine (w_n ?_)
                  refine w_seq ?_
                  refine w_K (D := (Aft W1 D)) (fun xX : List Int => ⟨[(1, .cv (.val (.sl (List.map eU o)))), (7, .cv (.val (.sl (List.map eS r1)))), (10, .cv (.val (.ptr (some (h.n + 2, 0))))), (12, .cv (.val (.ptr (some (h.n + 6, 0))))), (14, .cv (.row 3 (List.map eI xX))), (15, .cv (.val (.int .i64 v5)))], h.on [none, none, some (.cells [.val (.sl (List.map eB y.graph.Final)), .val (.sl (List.map (eL eEdge) y.graph.Edges)), .row 3 (List.map eI y.base), .row 91 (List.map edarray_cell y.cells), .val (.sl (List.map eI y.count))]), none, none, none, some (.cells [.val (.sl (List.map eB y1.graph.Final)), .val (.sl (List.map (eL eEdge) y1.graph.Edges)), .row 3 (List.map eI y1.base), .row 91 (List.map edarray_cell y1.cells), .val (.sl (List.map eI y1.count))])]⟩) (fun xX : List Int => scansionlaw18_DarrayWords.k3 v5 xX) (fun xX s' hr ht => ?_) ?_
                  · obtain ⟨v6, rfl⟩ : ∃ z, z = xX := ⟨xX, rfl⟩
                    dsimp only [scansionlaw18_DarrayWords.k3] at hr ht
                    refine (w_nT ht ?_)
                    refine w_region rfl (by simp (disch := (apply Apart.mk; decide)) only [go_sem, Nat.reduceAdd, Nat.reduceLT, Nat.reduceMul, Nat.reduceLeDiff, Int.reduceToNat, Int.reduceLT, Int.reduceLE, cF4, cF15, cF21, cF28]; rfl) ?_
                    exact (w_k ⟨(v6, (IntKind.i64.wrap (v5 + (1 : Int)))), hr, (To.cut hwf (Nat.le_refl _) rfl (by simp (disch := (apply Apart.mk; decide)) only [go_sem, Nat.reduceAdd, Nat.reduceLT, Nat.reduceMul, Nat.reduceLeDiff, Int.reduceToNat, Int.reduceLT, Int.reduceLE, cF4, cF15, cF21, cF28]))⟩)
                  · refine w_block ?_
                    refine w_seq ?_
                    refine w_region rfl (by simp (disch := (apply Apart.mk; decide)) only [go_sem, Nat.reduceAdd, Nat.reduceLT, Nat.reduceMul, Nat.reduceLeDiff, Int.reduceToNat, Int.reduceLT, Int.reduceLE, cF4, cF15, cF21, cF28]; rfl) ?_
                    refine (w_n ?_)
                    refine w_block ?_
                    refine w_Loop (fun xX : (List Int × Int) => ⟨[(1, .cv (.val (.sl (List.map eU o)))), (7, .cv (.val (.sl (List.map eS r1)))), (10, .cv (.val (.ptr (some (h.n + 2, 0))))), (12, .cv (.val (.ptr (some (h.n + 6, 0))))), (14, .cv (.row 3 (List.map eI xX.1))), (15, .cv (.val (.int .i64 v5))), (16, .cv (.val (.int .i64 xX.2)))], h.on [none, none, some (.cells [.val (.sl (List.map eB y.graph.Final)), .val (.sl (List.map (eL eEdge) y.graph.Edges)), .row 3 (List.map eI y.base), .row 91 (List.map edarray_cell y.cells), .val (.sl (List.map eI y.count))]), none, none, none, some (.cells [.val (.sl (List.map eB y1.graph.Final)), .val (.sl (List.map (eL eEdge) y1.graph.Edges)), .row 3 (List.map eI y1.base), .row 91 (List.map edarray_cell y1.cells), .val (.sl (List.map eI y1.count))])]⟩) hr (To.cut hwf (Nat.le_refl _) rfl (by simp (disch := (apply Apart.mk; decide)) only [go_sem, Nat.reduceAdd, Nat.reduceLT, Nat.reduceMul, Nat.reduceLeDiff, Int.reduceToNat, Int.reduceLT, Int.reduceLE, cF4, cF15, cF21, cF28])) (fun W2 xX hr => ?_)
                    obtain ⟨v7, v8⟩ := xX
                    dsimp only [scansionlaw18_DarrayWords.b2] at hr
                    refine w_seq ?_
                    refine w_seq ?_
                    refine w_region rfl (by simp (disch := (apply Apart.mk; decide)) only [go_sem, Nat.reduceAdd, Nat.reduceLT, Nat.reduceMul, Nat.reduceLeDiff, Int.reduceToNat, Int.reduceLT, Int.reduceLE, cF4, cF15, cF21, cF28]; rfl) ?_
                    refine (w_n ?_)
                    refine w_condH (by simp (disch := (apply Apart.mk; decide)) only [go_sem, Nat.reduceAdd, Nat.reduceLT, Nat.reduceMul, Nat.reduceLeDiff, Int.reduceToNat, Int.reduceLT, Int.reduceLE, cF4, cF15, cF21, cF28]) hr (fun cF29 hr => ?_) (fun cF29 hr => ?_)
                    · refine w_skip ?_
                      refine (w_n ?_)
                      refine w_seq ?_
                      refine w_K (D := (Aft W2 (Aft W1 D))) (fun xX : List Int => ⟨[(1, .cv (.val (.sl (List.map eU o)))), (7, .cv (.val (.sl (List.map eS r1)))), (10, .cv (.val (.ptr (some (h.n + 2, 0))))), (12, .cv (.val (.ptr (some (h.n + 6, 0))))), (14, .cv (.row 3 (List.map eI xX))), (15, .cv (.val (.int .i64 v5))), (16, .cv (.val (.int .i64 v8)))], h.on [none, none, some (.cells [.val (.sl (List.map eB y.graph.Final)), .val (.sl (List.map (eL eEdge) y.graph.Edges)), .row 3 (List.map eI y.base), .row 91 (List.map edarray_cell y.cells), .val (.sl (List.map eI y.count))]), none, none, none, some (.cells [.val (.sl (List.map eB y1.graph.Final)), .val (.sl (List.map (eL eEdge) y1.graph.Edges)), .row 3 (List.map eI y1.base), .row 91 (List.map edarray_cell y1.cells), .val (.sl (List.map eI y1.count))])]⟩) (fun xX : List Int => scansionlaw18_DarrayWords.k4 v8 xX) (fun xX s' hr ht => ?_) ?_
                      · obtain ⟨v9, rfl⟩ : ∃ z, z = xX := ⟨xX, rfl⟩
                        dsimp only [scansionlaw18_DarrayWords.k4] at hr ht
                        refine (w_nT ht ?_)
                        refine w_region rfl (by simp (disch := (apply Apart.mk; decide)) only [go_sem, Nat.reduceAdd, Nat.reduceLT, Nat.reduceMul, Nat.reduceLeDiff, Int.reduceToNat, Int.reduceLT, Int.reduceLE, cF4, cF15, cF21, cF28, cF29]; rfl) ?_
                        exact (w_k ⟨(v9, (IntKind.i64.wrap (v8 + (1 : Int)))), hr, (To.cut hwf (Nat.le_refl _) rfl (by simp (disch := (apply Apart.mk; decide)) only [go_sem, Nat.reduceAdd, Nat.reduceLT, Nat.reduceMul, Nat.reduceLeDiff, Int.reduceToNat, Int.reduceLT, Int.reduceLE, cF4, cF15, cF21, cF28, cF29]))⟩)
                      · refine w_block ?_
                        refine w_seq ?_
                        refine w_drawn [0, 1, 2, 3, 4, 5, 6, 7, 8] (by rfl) ?_
                        obtain ⟨s, nF30, eF31, gF32, hr⟩ := hr.idx
                        obtain ⟨nF33, nF34, hr⟩ := hr.cutH
                        refine p_run (l := [0, 1, 2, 3, 4, 5, 6, 7, 8]) (pend' := [8, 7, 6, 5, 4, 3, 2, 1, 0]) (by simp (disch := (apply Apart.mk; decide)) only [go_sem, Nat.reduceAdd, Nat.reduceLT, Nat.reduceMul, Nat.reduceLeDiff, Int.reduceToNat, Int.reduceLT, Int.reduceLE, nF30, eF31, gF32, nF33, nF34]; rfl) rfl ?_
                        refine p_end (by simp (disch := (apply Apart.mk; decide)) only [go_sem, Nat.reduceAdd, Nat.reduceLT, Nat.reduceMul, Nat.reduceLeDiff, Int.reduceToNat, Int.reduceLT, Int.reduceLE, nF30, eF31, gF32, nF33, nF34]) ?_
                        refine (w_n ?_)
                        refine w_condH (by simp (disch := (apply Apart.mk; decide)) only [go_sem, Nat.reduceAdd, Nat.reduceLT, Nat.reduceMul, Nat.reduceLeDiff, Int.reduceToNat, Int.reduceLT, Int.reduceLE, cF4, cF15, cF21, cF28, cF29]) hr (fun cF35 hr => ?_) (fun cF35 hr => ?_)
                        · refine w_seq ?_
                          obtain ⟨nF36, hr⟩ := hr.room
                          refine w_region rfl (by simp (disch := (apply Apart.mk; decide)) only [go_sem, Nat.reduceAdd, Nat.reduceLT, Nat.reduceMul, Nat.reduceLeDiff, Int.reduceToNat, Int.reduceLT, Int.reduceLE, nF36, cF4, cF15, cF21, cF28, cF29, cF35]; rfl) ?_
                          refine (w_n ?_)
                          refine w_seq ?_
                          refine w_ops rfl ?_
                          obtain ⟨nF37, nF38, hr⟩ := hr.cutH
                          refine w_upto 4 rfl (by simp (disch := (apply Apart.mk; decide)) only [go_sem, Nat.reduceAdd, Nat.reduceLT, Nat.reduceMul, Nat.reduceLeDiff, Int.reduceToNat, Int.reduceLT, Int.reduceLE, nF37, nF38]; rfl) ?_
                          obtain ⟨r12, eF39, hr⟩ := hr.bind
                          refine w_call' (out := ?o_eF39) (hp := ?p_eF39) rfl (by simp (disch := (apply Apart.mk; decide)) only [go_sem, Nat.reduceAdd, Nat.reduceLT, Nat.reduceMul, Nat.reduceLeDiff, Int.reduceToNat, Int.reduceLT, Int.reduceLE, Option.getD_some, nF37, nF38]; rfl) (by simp (disch := (apply Apart.mk; decide)) only [go_sem, Nat.reduceAdd, Nat.reduceLT, Nat.reduceMul, Nat.reduceLeDiff, Int.reduceToNat, Int.reduceLT, Int.reduceLE, Option.getD_some, nF37, nF38]; rfl) (by simp (disch := (apply Apart.mk; decide)) only [go_sem, Nat.reduceAdd, Nat.reduceLT, Nat.reduceMul, Nat.reduceLeDiff, Int.reduceToNat, Int.reduceLT, Int.reduceLE, Option.getD_some, nF37, nF38]; rfl) ?c_eF39 ?d_eF39 ?_
                          case c_eF39 => (refine darray_Array_Number_runs y1 (List.take (Int.toNat v5) o) (h.n + 6) ?_ eF39; (simp (disch := (apply Apart.mk; decide)) only [go_sem, Nat.reduceAdd, Nat.reduceLT, Nat.reduceMul, Nat.reduceLeDiff, Int.reduceToNat, Int.reduceLT, Int.reduceLE]))
                          case d_eF39 => rfl
                          refine w_ops_end (by simp (disch := (apply Apart.mk; decide)) only [go_sem, Nat.reduceAdd, Nat.reduceLT, Nat.reduceMul, Nat.reduceLeDiff, Int.reduceToNat, Int.reduceLT, Int.reduceLE, nF37, nF38]; rfl) ?_
                          refine (w_n ?_)
                          refine w_joinR (sj := ⟨[(1, .cv (.val (.sl (List.map eU o)))), (7, .cv (.val (.sl (List.map eS r1)))), (10, .cv (.val (.ptr (some (h.n + 2, 0))))), (12, .cv (.val (.ptr (some (h.n + 6, 0))))), (14, .cv (.row 3 (List.map eI (v7 ++ ([v5]))))), (15, .cv (.val (.int .i64 v5))), (16, .cv (.val (.int .i64 v8))), (125, .cv (.val (.bool ((!r12.2) || (r12.1 != v8)))))], h.on [none, none, some (.cells [.val (.sl (List.map eB y.graph.Final)), .val (.sl (List.map (eL eEdge) y.graph.Edges)), .row 3 (List.map eI y.base), .row 91 (List.map edarray_cell y.cells), .val (.sl (List.map eI y.count))]), none, none, none, some (.cells [.val (.sl (List.map eB y1.graph.Final)), .val (.sl (List.map (eL eEdge) y1.graph.Edges)), .row 3 (List.map eI y1.base), .row 91 (List.map edarray_cell y1.cells), .val (.sl (List.map eI y1.count))])]⟩) (w_ops rfl ?_) ?_
                          · refine w_upto 3 rfl (by simp (disch := (apply Apart.mk; decide)) only [go_sem, Nat.reduceAdd, Nat.reduceLT, Nat.reduceMul, Nat.reduceLeDiff, Int.reduceToNat, Int.reduceLT, Int.reduceLE]; rfl) ?_
                            rcases Bool.eq_false_or_eq_true (!r12.2) with cF40 | cF40
                            · refine w_ops_end (by simp (disch := (apply Apart.mk; decide)) only [go_sem, Nat.reduceAdd, Nat.reduceLT, Nat.reduceMul, Nat.reduceLeDiff, Int.reduceToNat, Int.reduceLT, Int.reduceLE, cF40]; rfl) ?_
                              exact w_k (To.cut hwf (Nat.le_refl _) rfl (by simp (disch := (apply Apart.mk; decide)) only [go_sem, Nat.reduceAdd, Nat.reduceLT, Nat.reduceMul, Nat.reduceLeDiff, Int.reduceToNat, Int.reduceLT, Int.reduceLE, cF4, cF15, cF21, cF28, cF29, cF35, cF40]))
                            · refine w_ops_end (by simp (disch := (apply Apart.mk; decide)) only [go_sem, Nat.reduceAdd, Nat.reduceLT, Nat.reduceMul, Nat.reduceLeDiff, Int.reduceToNat, Int.reduceLT, Int.reduceLE, cF40]; rfl) ?_
                              exact w_k (To.cut hwf (Nat.le_refl _) rfl (by simp (disch := (apply Apart.mk; decide)) only [go_sem, Nat.reduceAdd, Nat.reduceLT, Nat.reduceMul, Nat.reduceLeDiff, Int.reduceToNat, Int.reduceLT, Int.reduceLE, cF4, cF15, cF21, cF28, cF29, cF35, cF40]))
                          refine w_condH (by simp (disch := (apply Apart.mk; decide)) only [go_sem, Nat.reduceAdd, Nat.reduceLT, Nat.reduceMul, Nat.reduceLeDiff, Int.reduceToNat, Int.reduceLT, Int.reduceLE, cF4, cF15, cF21, cF28, cF29, cF35]) hr (fun cF41 hr => ?_) (fun cF41 hr => ?_)
                          · refine w_seq ?_
                            refine w_region rfl (by simp (disch := (apply Apart.mk; decide)) only [go_sem, Nat.reduceAdd, Nat.reduceLT, Nat.reduceMul, Nat.reduceLeDiff, Int.reduceToNat, Int.reduceLT, Int.reduceLE, cF4, cF15, cF21, cF28, cF29, cF35, cF41]; rfl) ?_
                            refine (w_n ?_)
                            refine w_ret ?_
                            obtain rfl := hD _ hr
                            exact (w_br (w_tr (w_tr (w_tr (w_br (w_br (w_tr (w_tr (w_tr (w_br (w_tr (w_tr (w_endR (To.cut (os' := []) (sl := [(4, .cv (.val (.bool false)))]) hwf (Nat.le_refl _) rfl (by simp (disch := (apply Apart.mk; decide)) only [go_sem, Nat.reduceAdd, Nat.reduceLT, Nat.reduceMul, Nat.reduceLeDiff, Int.reduceToNat, Int.reduceLT, Int.reduceLE, cF4, cF15, cF21, cF28, cF29, cF35, cF41])) (by simp (disch := (apply Apart.mk; decide)) only [go_sem, Nat.reduceAdd, Nat.reduceLT, Nat.reduceMul, Nat.reduceLeDiff, Int.reduceToNat, Int.reduceLT, Int.reduceLE, Try.results12, results_data CT_gives12, resCell, resVal.eq_2, loadOp_sv, cF4, cF15, cF21, cF28, cF29, cF35, cF41]) ⟨rfl, on_nil hwf⟩)))))))))))))
                          · refine w_skip ?_
                            exact (w_bn (w_k ⟨(v7 ++ ([v5])), hr, (To.cut hwf (Nat.le_refl _) rfl (by simp (disch := (apply Apart.mk; decide)) only [go_sem, Nat.reduceAdd, Nat.reduceLT, Nat.reduceMul, Nat.reduceLeDiff, Int.reduceToNat, Int.reduceLT, Int.reduceLE, cF4, cF15, cF21, cF28, cF29, cF35, cF41]))⟩))
                        · refine w_skip ?_
                          exact (w_bn (w_k ⟨v7, hr, (To.cut hwf (Nat.le_refl _) rfl (by simp (disch := (apply Apart.mk; decide)) only [go_sem, Nat.reduceAdd, Nat.reduceLT, Nat.reduceMul, Nat.reduceLeDiff, Int.reduceToNat, Int.reduceLT, Int.reduceLE, cF4, cF15, cF21, cF28, cF29, cF35]))⟩))
                    · refine w_exit ?_
                      exact (w_te (w_te (w_bx (w_bn (w_k ⟨v7, (hr).map, (To.cut hwf (Nat.le_refl _) rfl (by simp (disch := (apply Apart.mk; decide)) only [go_sem, Nat.reduceAdd, Nat.reduceLT, Nat.reduceMul, Nat.reduceLeDiff, Int.reduceToNat, Int.reduceLT, Int.reduceLE, cF4, cF15, cF21, cF28, cF29]))⟩)))))
                · refine w_exit ?_
                  exact (w_te (w_te (w_bx (w_k ⟨v4, (hr).map, (To.cut hwf (Nat.le_refl _) rfl (by simp (disch := (apply Apart.mk; decide)) only [go_sem, Nat.reduceAdd, Nat.reduceLT, Nat.reduceMul, Nat.reduceLeDiff, Int.reduceToNat, Int.reduceLT, Int.reduceLE, cF4, cF15, cF21, cF28]))⟩))))
    · refine w_block ?_
      refine w_Loop (fun xX : Int => ⟨[(0, .cv (.val (.sl (List.map eS t)))), (1, .cv (.val (.sl (List.map eU o)))), (6, .cv (.val (.int .i64 xX)))], h.on []⟩) hr (To.cut hwf (Nat.le_refl _) rfl (by simp (disch := (apply Apart.mk; decide)) only [go_sem, Nat.reduceAdd, Nat.reduceLT, Nat.reduceMul, Nat.reduceLeDiff, Int.reduceToNat, Int.reduceLT, Int.reduceLE, cF4])) (fun W3 xX hr => ?_)
      obtain ⟨y2, rfl⟩ : ∃ z, z = xX := ⟨xX, rfl⟩
      dsimp only [scansionlaw18_DarrayWords.b3] at hr
      refine w_seq ?_
      refine w_seq ?_
      refine w_region rfl (by simp (disch := (apply Apart.mk; decide)) only [go_sem, Nat.reduceAdd, Nat.reduceLT, Nat.reduceMul, Nat.reduceLeDiff, Int.reduceToNat, Int.reduceLT, Int.reduceLE, cF4]; rfl) ?_
      refine (w_n ?_)
      refine w_condH (by simp (disch := (apply Apart.mk; decide)) only [go_sem, Nat.reduceAdd, Nat.reduceLT, Nat.reduceMul, Nat.reduceLeDiff, Int.reduceToNat, Int.reduceLT, Int.reduceLE, cF4]) hr (fun cF44 hr => ?_) (fun cF44 hr => ?_)
      · refine w_skip ?_
        refine (w_n ?_)
        refine w_seq ?_
        refine w_block ?_
        refine w_seq ?_
        obtain ⟨s1, nF45, eF46, gF47, hr⟩ := hr.idx
        refine w_region rfl (by simp (disch := (apply Apart.mk; decide)) only [go_sem, Nat.reduceAdd, Nat.reduceLT, Nat.reduceMul, Nat.reduceLeDiff, Int.reduceToNat, Int.reduceLT, Int.reduceLE, nF45, eF46, gF47, cF4, cF44]; rfl) ?_
        refine (w_n ?_)
        refine w_condH (by simp (disch := (apply Apart.mk; decide)) only [go_sem, Nat.reduceAdd, Nat.reduceLT, Nat.reduceMul, Nat.reduceLeDiff, Int.reduceToNat, Int.reduceLT, Int.reduceLE, cF4, cF44]) hr (fun cF48 hr => ?_) (fun cF48 hr => ?_)
        · refine w_seq ?_
          refine w_region rfl (by simp (disch := (apply Apart.mk; decide)) only [go_sem, Nat.reduceAdd, Nat.reduceLT, Nat.reduceMul, Nat.reduceLeDiff, Int.reduceToNat, Int.reduceLT, Int.reduceLE, cF4, cF44, cF48]; rfl) ?_
          refine (w_n ?_)
          refine w_ret ?_
          obtain rfl := hD _ hr
          exact (w_br (w_tr (w_tr (w_br (w_tr (w_tr (w_endR (To.cut (os' := []) (sl := [(4, .cv (.val (.bool true)))]) hwf (Nat.le_refl _) rfl (by simp (disch := (apply Apart.mk; decide)) only [go_sem, Nat.reduceAdd, Nat.reduceLT, Nat.reduceMul, Nat.reduceLeDiff, Int.reduceToNat, Int.reduceLT, Int.reduceLE, cF4, cF44, cF48])) (by simp (disch := (apply Apart.mk; decide)) only [go_sem, Nat.reduceAdd, Nat.reduceLT, Nat.reduceMul, Nat.reduceLeDiff, Int.reduceToNat, Int.reduceLT, Int.reduceLE, Try.results12, results_data CT_gives12, resCell, resVal.eq_2, loadOp_sv, cF4, cF44, cF48]) ⟨rfl, on_nil hwf⟩)))))))
        · refine w_skip ?_
          refine (w_bn (w_n ?_))
          refine w_region rfl (by simp (disch := (apply Apart.mk; decide)) only [go_sem, Nat.reduceAdd, Nat.reduceLT, Nat.reduceMul, Nat.reduceLeDiff, Int.reduceToNat, Int.reduceLT, Int.reduceLE, cF4, cF44, cF48]; rfl) ?_
          exact (w_k ⟨(IntKind.i64.wrap (y2 + (1 : Int))), hr, (To.cut hwf (Nat.le_refl _) rfl (by simp (disch := (apply Apart.mk; decide)) only [go_sem, Nat.reduceAdd, Nat.reduceLT, Nat.reduceMul, Nat.reduceLeDiff, Int.reduceToNat, Int.reduceLT, Int.reduceLE, cF4, cF44, cF48]))⟩)
      · refine w_exit ?_
        exact (w_te (w_te (w_bx (w_k ⟨(), (hr).map, (To.cut hwf (Nat.le_refl _) rfl (by simp (disch := (apply Apart.mk; decide)) only [go_sem, Nat.reduceAdd, Nat.reduceLT, Nat.reduceMul, Nat.reduceLeDiff, Int.reduceToNat, Int.reduceLT, Int.reduceLE, cF4, cF44]))⟩))))
end Go.Val

/- part P1 -/
/- Plain lemmas: loops that are read off. -/
namespace Go.Val
set_option linter.unusedVariables false

theorem w64 {n : Int} (h1 : -9223372036854775808 ≤ n) (h2 : n ≤ 9223372036854775807) : IntKind.i64.wrap n = n := by rw [IntKind.wrap_i64]; omega
theorem w64s {i : Nat} (h : i < 9223372036854775807) : IntKind.i64.wrap ((i : Int) + 1) = ((i + 1 : Nat) : Int) := by rw [w64 (by omega) (by omega)]; omega
theorem idx_nat {α : Type} {xs : List α} {i : Nat} : idx xs (i : Int) = xs[i]? := by
  unfold idx; rw [if_neg (by omega)]; simp
theorem idx_some {α : Type} {xs : List α} {i : Int} {x : α} (h0 : 0 ≤ i) (h : xs[i.toNat]? = some x) : idx xs i = some x := by
  unfold idx; rw [if_neg (by omega)]; exact h
theorem room_ok {sz n : Nat} (h : n * sz ≤ 140737488355328) : room sz n = some () := by
  unfold room roomOf; rw [if_pos h]
theorem roomS_ok {n : Nat} (h : n ≤ 9223372036854775807) : roomS n = some () := by
  unfold roomS; rw [if_neg (by simp [IntKind.max, IntKind.signed, IntKind.bits]; omega)]
theorem mk_ok {α : Type} {sz : Nat} {z : α} {n : Nat} (h : n * sz ≤ 140737488355328) : mk sz z (n : Int) = some (List.replicate n z) := by
  unfold mk roomOf; rw [if_pos ⟨by omega, by simpa using h⟩]; simp

theorem snoc_ind {α : Type} {P : List α → Prop} (h0 : P []) (h1 : ∀ l x, P l → P (l ++ [x])) (l : List α) : P l := by
  have key : ∀ l : List α, P l.reverse := by
    intro l
    induction l with
    | nil => exact h0
    | cons x l ih => rw [List.reverse_cons]; exact h1 _ _ ih
  have := key l.reverse
  rwa [List.reverse_reverse] at this
/-- Rounds that go on, one by one. -/
theorem Loop_run {σ ρ : Type} {b : σ → Option (Step σ ρ)} (st : Nat → σ) {i n : Nat} (hin : i ≤ n) (h : ∀ j, i ≤ j → j < n → b (st j) = some (.next (st (j + 1)))) : Loop b (st i) = Loop b (st n) := by
  induction n with
  | zero => obtain rfl : i = 0 := by omega
            rfl
  | succ n ih =>
    by_cases e : i = n + 1
    · rw [e]
    · rw [ih (by omega) fun j h1 h2 => h j h1 (by omega)]
      exact Loop_next (h n (by omega) (by omega))
theorem Loop_int {ρ : Type} {b : Int → Option (Step Int ρ)} {i n : Nat} (hin : i ≤ n) (h : ∀ j : Nat, i ≤ j → j < n → b j = some (.next ((j + 1 : Nat) : Int))) : Loop b (i : Int) = Loop b (n : Int) := Loop_run (fun j : Nat => (j : Int)) hin h
/-- A loop's end. -/
theorem Loop_end {σ ρ : Type} {b : σ → Option (Step σ ρ)} {s : σ} {R : Option ρ} (h : b s = R.map Step.done) : Loop b s = R := by
  cases R with
  | some r => exact Loop_done h
  | none =>
    apply Option.ext_some
    · intro r hr
      obtain ⟨n, hn⟩ := Loop_get hr
      cases n with
      | zero => simp [rounds] at hn
      | succ n => simp [rounds, h] at hn
    · intro r hr; cases hr
open Classical in
/-- A loop that looks for what is bad. -/
theorem Loop_all {ρ : Type} {b : Int → Option (Step Int ρ)} (P : Nat → Prop) {n : Nat} {r R : ρ} (hg : ∀ j, j < n → P j → b (j : Int) = some (.next ((j + 1 : Nat) : Int))) (hb : ∀ j, j < n → ¬ P j → b (j : Int) = some (.done r)) (he : b (n : Int) = some (.done R)) :
    ∀ (d i : Nat), i + d = n → Loop b (i : Int) = if ∀ j, i ≤ j → j < n → P j then some R else some r := by
  intro d
  induction d with
  | zero =>
    intro i hi
    obtain rfl : i = n := by omega
    rw [if_pos (fun j h1 h2 => by omega)]
    exact Loop_done he
  | succ d ih =>
    intro i hi
    by_cases hp : P i
    · rw [Loop_next (hg i (by omega) hp), ih (i + 1) (by omega)]
      have : (∀ j, i + 1 ≤ j → j < n → P j) ↔ ∀ j, i ≤ j → j < n → P j := by
        constructor
        · intro h j h1 h2
          by_cases e : j = i
          · rw [e]; exact hp
          · exact h j (by omega) h2
        · intro h j h1 h2; exact h j (by omega) h2
      simp only [this]
    · rw [Loop_done (hb i (by omega) hp), if_neg (fun h => hp (h i (Nat.le_refl _) (by omega)))]
theorem Loop_all0 {ρ : Type} {b : Int → Option (Step Int ρ)} (P : Nat → Prop) (n : Nat) {r R : ρ} (hg : ∀ j, j < n → P j → b (j : Int) = some (.next ((j + 1 : Nat) : Int))) (hb : ∀ j, j < n → ¬ P j → b (j : Int) = some (.done r)) (he : b (n : Int) = some (.done R)) :
    ((∀ j, j < n → P j) → Loop b 0 = some R) ∧ ((¬ ∀ j, j < n → P j) → Loop b 0 = some r) := by
  have := Loop_all P hg hb he n 0 (by omega)
  exact ⟨fun h => by rw [if_pos (fun j _ hj => h j hj)] at this; exact this, fun h => by rw [if_neg (fun h' => h fun j hj => h' j (Nat.zero_le _) hj)] at this; exact this⟩
end Go.Val

/- part P2 -/
/- Plain lemmas: graphs that may be. -/
namespace Go.Val
set_option linter.unusedVariables false
def EdgeOk (s : Nat) (xs : List TEdge) (k : Nat) : Prop := ∀ x, xs[k]? = some x → 0 ≤ x.To ∧ x.To < s ∧ (0 < k → ∀ x1, xs[k - 1]? = some x1 → x1.Label.toNat < x.Label.toNat)
def RowOk (s : Nat) (xs : List TEdge) : Prop := ∀ k, k < xs.length → EdgeOk s xs k
structure RightP (g : TGraph) : Prop where
  lo : 1 ≤ g.Final.length
  hi : g.Final.length ≤ 65536
  len : g.Edges.length = g.Final.length
  rows : ∀ s, s < g.Edges.length → ∀ xs, g.Edges[s]? = some xs → RowOk s xs
/-- No row is longer than memory. -/
def Short (g : TGraph) : Prop := ∀ xs ∈ g.Edges, xs.length ≤ 140737488355328

def chk (s : Int) (xs : List TEdge) (k : Int) (x : TEdge) : Option Bool :=
  if (decide (x.To < (0 : Int))) then some true
  else if (decide (x.To ≥ s)) then some true
  else if (decide (k > (0 : Int))) then
    (idx xs (IntKind.i64.wrap (k - (1 : Int)))).bind fun x1 => some (decide ((x.Label.toNat : Int) ≤ (x1.Label.toNat : Int)))
  else some false
theorem chk_eq {s k : Nat} {xs : List TEdge} {x : TEdge} (hk : xs[k]? = some x) (hl : xs.length ≤ 140737488355328) : ∃ v, chk s xs k x = some v ∧ (v = true ↔ ¬ EdgeOk s xs k) := by
  have hlt : k < xs.length := (List.getElem?_eq_some_iff.1 hk).1
  unfold chk
  by_cases h1 : x.To < 0
  · exact ⟨true, by simp [h1], by simp; intro h; have := (h x hk).1; omega⟩
  by_cases h2 : x.To ≥ s
  · exact ⟨true, by simp [h1, h2], by simp; intro h; have := (h x hk).2.1; omega⟩
  by_cases h3 : 0 < k
  · have hlt1 : k - 1 < xs.length := by omega
    have h4 : xs[k - 1]? = some (xs[k - 1]) := List.getElem?_eq_getElem hlt1
    have e : IntKind.i64.wrap ((k : Int) - 1) = ((k - 1 : Nat) : Int) := by rw [w64 (by omega) (by omega)]; omega
    refine ⟨decide ((x.Label.toNat : Int) ≤ (xs[k - 1].Label.toNat : Int)), ?_, ?_⟩
    · rw [if_neg (by simp; omega), if_neg (by simp; omega), if_pos (by simp; omega), e, idx_nat, h4]; rfl
    · simp only [decide_eq_true_eq]
      constructor
      · intro h hok
        have := (hok x hk).2.2 h3 _ h4
        omega
      · intro h
        by_cases hc : (x.Label.toNat : Int) ≤ (xs[k - 1].Label.toNat : Int)
        · exact hc
        · exfalso; apply h
          intro y hy
          rw [hk] at hy; cases hy
          exact ⟨by omega, by omega, fun _ x1 hx1 => by rw [h4] at hx1; cases hx1; omega⟩
  · refine ⟨false, ?_, ?_⟩
    · rw [if_neg (by simp; omega), if_neg (by simp; omega), if_neg (by simp; omega)]
    · simp only [Bool.false_eq_true, false_iff, Classical.not_not]
      intro y hy
      rw [hk] at hy; cases hy
      exact ⟨by omega, by omega, fun h => absurd h h3⟩

theorem dawg_Right_row {s : Nat} {xs : List TEdge} (hs : s ≤ 65536) (hl : xs.length ≤ 140737488355328) : (RowOk s xs → Loop (dawg_Right.b2 s xs) 0 = some (.next ((s + 1 : Nat) : Int))) ∧ (¬ RowOk s xs → Loop (dawg_Right.b2 s xs) 0 = some (.done false)) := by
  refine Loop_all0 (fun k => EdgeOk s xs k) xs.length (fun k hk hp => ?_) (fun k hk hp => ?_) ?_
  · have hx : xs[k]? = some xs[k] := List.getElem?_eq_getElem hk
    obtain ⟨v, h1, h2⟩ := chk_eq (s := s) hx hl
    have hv : v = false := by cases v with
      | true => exact absurd hp (h2.1 rfl)
      | false => rfl
    unfold dawg_Right.b2
    rw [if_pos (by simp; omega), idx_nat, hx]
    show (chk s xs k xs[k]).bind _ = _
    rw [h1, hv]
    simp [w64s (show k < 9223372036854775807 by omega)]
  · have hx : xs[k]? = some xs[k] := List.getElem?_eq_getElem hk
    obtain ⟨v, h1, h2⟩ := chk_eq (s := s) hx hl
    have hv : v = true := h2.2 hp
    unfold dawg_Right.b2
    rw [if_pos (by simp; omega), idx_nat, hx]
    show (chk s xs k xs[k]).bind _ = _
    rw [h1, hv]
    rfl
  · unfold dawg_Right.b2
    rw [if_neg (by simp)]
    simp [dawg_Right.k2, w64s (show s < 9223372036854775807 by omega)]
open Classical in
theorem dawg_Right_eq {g : TGraph} (hs : Short g) : dawg_Right g = some (decide (RightP g)) := by
  unfold dawg_Right
  split
  · rename_i h
    have : ¬ RightP g := fun hr => by
      have h1 := hr.lo; have h2 := hr.hi; have h3 := hr.len
      simp at h; omega
    simp [this]
  · rename_i h
    simp at h
    obtain ⟨k1, k2⟩ := Loop_all0 (b := dawg_Right.b1 g) (fun s => ∀ xs, g.Edges[s]? = some xs → RowOk s xs) g.Edges.length (r := false) (R := true) (fun s hlt hp => by
        have hx : g.Edges[s]? = some g.Edges[s] := List.getElem?_eq_getElem hlt
        unfold dawg_Right.b1
        rw [if_pos (by simp; omega), idx_nat, hx, Option.bind_some, (dawg_Right_row (by omega) (hs _ (List.getElem_mem hlt))).1 (hp _ hx)])
      (fun s hlt hp => by
        have hx : g.Edges[s]? = some g.Edges[s] := List.getElem?_eq_getElem hlt
        unfold dawg_Right.b1
        rw [if_pos (by simp; omega), idx_nat, hx, Option.bind_some, (dawg_Right_row (by omega) (hs _ (List.getElem_mem hlt))).2 (fun h => hp fun xs he => by rw [hx] at he; cases he; exact h)])
      (by unfold dawg_Right.b1; rw [if_neg (by simp)]; rfl)
    by_cases hr : RightP g
    · rw [k1 hr.rows]; simp [hr]
    · rw [k2 (fun hrows => hr ⟨by omega, by omega, by omega, hrows⟩)]; simp [hr]
end Go.Val

/- part P3 -/
/- Plain lemmas: how many words lead to an end. -/
namespace Go.Val
set_option linter.unusedVariables false
def cap : Int := 1099511627776
def crow (cs : List Int) (n : Int) (xs : List TEdge) : Int := xs.foldl (fun n x => mn (n + cs.getD x.To.toNat 0) cap) n
def cstep (cs : List Int) (p : Bool × List TEdge) : Int := crow cs (if p.1 then 1 else 0) p.2
def counts (rows : List (Bool × List TEdge)) : List Int := rows.foldl (fun cs p => cs ++ [cstep cs p]) []
def rowsOf (g : TGraph) : List (Bool × List TEdge) := g.Final.zip g.Edges

theorem counts_snoc {rows : List (Bool × List TEdge)} {p : Bool × List TEdge} : counts (rows ++ [p]) = counts rows ++ [cstep (counts rows) p] := by simp [counts]
theorem counts_len (rows : List (Bool × List TEdge)) : (counts rows).length = rows.length := by
  induction rows using snoc_ind with
  | h0 => rfl
  | h1 rows p ih => rw [counts_snoc]; simp [ih]
theorem mn_le {a b : Int} : mn a b ≤ b ∧ mn a b ≤ a := by unfold mn; split <;> omega
theorem mn_ge {a b c : Int} (h1 : c ≤ a) (h2 : c ≤ b) : c ≤ mn a b := by unfold mn; split <;> omega
theorem getD_bound {cs : List Int} (hc : ∀ c ∈ cs, 0 ≤ c ∧ c ≤ cap) (i : Nat) : 0 ≤ cs.getD i 0 ∧ cs.getD i 0 ≤ cap := by
  rw [List.getD_eq_getElem?_getD]
  cases h : cs[i]? with
  | none => simp [cap]
  | some c => simpa using hc c (List.mem_of_getElem? h)
theorem crow_bound {cs : List Int} (hc : ∀ c ∈ cs, 0 ≤ c ∧ c ≤ cap) : ∀ (xs : List TEdge) {n : Int}, 0 ≤ n → n ≤ cap → 0 ≤ crow cs n xs ∧ crow cs n xs ≤ cap
  | [], n, h1, h2 => ⟨h1, h2⟩
  | x :: xs, n, h1, h2 => by
    have hb := getD_bound hc x.To.toNat
    exact crow_bound hc xs (mn_ge (by omega) (by simp [cap])) mn_le.1
theorem counts_bound (rows : List (Bool × List TEdge)) : ∀ c ∈ counts rows, 0 ≤ c ∧ c ≤ cap := by
  induction rows using snoc_ind with
  | h0 => intro c hc; simp [counts] at hc
  | h1 rows p ih =>
    intro c hc
    rw [counts_snoc] at hc
    rcases List.mem_append.1 hc with hc | hc
    · exact ih c hc
    · simp at hc; subst hc
      exact crow_bound ih _ (by split <;> omega) (by split <;> simp [cap])
theorem counts_take (rows : List (Bool × List TEdge)) (s : Nat) : counts (rows.take s) = (counts rows).take s := by
  induction rows using snoc_ind with
  | h0 => simp [counts]
  | h1 rows p ih =>
    by_cases h : s ≤ rows.length
    · rw [List.take_append_of_le_length h, ih, counts_snoc, List.take_append_of_le_length (by rw [counts_len]; exact h)]
    · rw [List.take_of_length_le (by simp; omega), List.take_of_length_le (by rw [counts_len]; simp; omega)]
theorem rows_at {g : TGraph} {s : Nat} {f : Bool} {xs : List TEdge} (h1 : g.Final[s]? = some f) (h2 : g.Edges[s]? = some xs) : (rowsOf g)[s]? = some (f, xs) := by
  simp [rowsOf, List.zip, List.getElem?_zipWith, h1, h2]
theorem rows_len {g : TGraph} (h : g.Edges.length = g.Final.length) : (rowsOf g).length = g.Final.length := by simp [rowsOf, h]
theorem take_snoc {α : Type} {l : List α} {s : Nat} {x : α} (h : l[s]? = some x) : l.take (s + 1) = l.take s ++ [x] := by
  rw [List.take_add_one, h]; rfl
theorem counts_next {g : TGraph} {s : Nat} {f : Bool} {xs : List TEdge} (h1 : g.Final[s]? = some f) (h2 : g.Edges[s]? = some xs) : counts ((rowsOf g).take (s + 1)) = counts ((rowsOf g).take s) ++ [crow (counts ((rowsOf g).take s)) (if f then 1 else 0) xs] := by
  rw [take_snoc (rows_at h1 h2), counts_snoc]; rfl
theorem crow_snoc {cs : List Int} {n : Int} {xs : List TEdge} {x : TEdge} : crow cs n (xs ++ [x]) = mn (crow cs n xs + cs.getD x.To.toNat 0) cap := by simp [crow]

/-- The program's Count: the list is there from the first, and filled. -/
def filled (cs : List Int) (n : Nat) : List Int := cs ++ List.replicate (n - cs.length) 0
theorem filled_set {cs : List Int} {n : Nat} {v : Int} (h : cs.length < n) (m : Int) : (cs ++ m :: List.replicate (n - cs.length - 1) 0).set cs.length v = cs ++ v :: List.replicate (n - cs.length - 1) 0 := by
  rw [List.set_append_right _ _ (Nat.le_refl _)]; simp
theorem filled_eq {cs : List Int} {n : Nat} (h : cs.length < n) : filled cs n = cs ++ 0 :: List.replicate (n - cs.length - 1) 0 := by
  unfold filled
  obtain ⟨m, hm⟩ : ∃ m, n - cs.length = m + 1 := ⟨n - cs.length - 1, by omega⟩
  rw [hm]; simp [List.replicate_succ]
theorem filled_snoc {cs : List Int} {n : Nat} {v : Int} (h : cs.length < n) : cs ++ v :: List.replicate (n - cs.length - 1) 0 = filled (cs ++ [v]) n := by
  unfold filled
  simp only [List.length_append, List.length_cons, List.length_nil, List.append_assoc, List.cons_append, List.nil_append]
  congr 3
theorem dawg_Count_row {g : TGraph} {s N : Nat} {xs : List TEdge} {f : Bool} (hg : g.Edges[s]? = some xs) (hf : g.Final[s]? = some f) (hs : s < N) (hN : N ≤ 65536) (hl : xs.length ≤ 140737488355328) (hr : RowOk s xs) (hlen : s ≤ (rowsOf g).length) {n : Int} (hn : n = if f then 1 else 0) {cs : List Int} (hcs : counts ((rowsOf g).take s) = cs) :
    Loop (dawg_Count.b2 s xs) (cs ++ n :: List.replicate (N - cs.length - 1) 0, 0) = some (.next (filled (counts ((rowsOf g).take (s + 1))) N, ((s + 1 : Nat) : Int))) := by
  have hcl : cs.length = s := by rw [← hcs, counts_len]; simp; omega
  have hcb : ∀ c ∈ cs, 0 ≤ c ∧ c ≤ cap := by rw [← hcs]; exact counts_bound _
  have := Loop_run (b := dawg_Count.b2 s xs) (fun k => (cs ++ crow cs n (xs.take k) :: List.replicate (N - cs.length - 1) 0, (k : Int))) (i := 0) (n := xs.length) (Nat.zero_le _) (fun k _ hk => by
    have hx : xs[k]? = some xs[k] := List.getElem?_eq_getElem hk
    have hok := hr k hk _ hx
    have hb := crow_bound hcb (xs.take k) (n := n) (by rw [hn]; split <;> omega) (by rw [hn]; split <;> simp [cap])
    have hc : cs[xs[k].To.toNat]? = some (cs[xs[k].To.toNat]'(by omega)) := List.getElem?_eq_getElem _
    have hgd : cs.getD xs[k].To.toNat 0 = cs[xs[k].To.toNat]'(by omega) := by rw [List.getD_eq_getElem?_getD, hc]; rfl
    have hb2 := getD_bound hcb xs[k].To.toNat
    have r1 : (cs ++ crow cs n (xs.take k) :: List.replicate (N - cs.length - 1) 0)[s]? = some (crow cs n (xs.take k)) := by
      rw [List.getElem?_append_right (by omega), hcl, Nat.sub_self]; rfl
    have r2 : (cs ++ crow cs n (xs.take k) :: List.replicate (N - cs.length - 1) 0)[xs[k].To.toNat]? = some (cs[xs[k].To.toNat]'(by omega)) := by
      rw [List.getElem?_append_left (by omega)]; exact hc
    rw [dawg_Count.b2, if_pos (by simp; omega), idx_nat, hx, Option.bind_some, idx_nat, r1, Option.bind_some, idx_some hok.1 r2, Option.bind_some, w64s (by omega), take_snoc hx, crow_snoc, hgd]
    rw [hgd] at hb2
    simp only [cap] at hb hb2
    rw [w64 (by omega) (by omega), Int.toNat_natCast]
    have e : ∀ v, (cs ++ crow cs n (List.take k xs) :: List.replicate (N - cs.length - 1) 0).set s v = cs ++ v :: List.replicate (N - cs.length - 1) 0 := fun v => by
      have := filled_set (cs := cs) (n := N) (v := v) (by omega) (crow cs n (List.take k xs))
      rwa [hcl] at this ⊢
    rw [e]
    rfl)
  simp only [List.take_zero, List.take_length] at this
  have e0 : crow cs n [] = n := rfl
  rw [e0, show ((0 : Nat) : Int) = 0 from rfl] at this
  rw [this]
  apply Loop_end
  rw [dawg_Count.b2, if_neg (by simp)]
  unfold dawg_Count.k2
  rw [w64s (by omega), counts_next hf hg, hcs, ← hn, filled_snoc (by omega)]
theorem dawg_Count_eq {g : TGraph} (hs : Short g) (hr : RightP g) : dawg_Count g = some (counts (rowsOf g), 0) := by
  unfold dawg_Count
  have hl := rows_len hr.len
  have hi := hr.hi
  rw [dawg_Right_eq hs, Option.bind_some, if_neg (by simp [hr]), mk_ok (by omega), Option.bind_some]
  have := Loop_run (b := dawg_Count.b1 g) (fun s => (filled (counts ((rowsOf g).take s)) g.Final.length, (s : Int))) (i := 0) (n := g.Final.length) (Nat.zero_le _) (fun s _ hlt => by
    have h1 : g.Final[s]? = some g.Final[s] := List.getElem?_eq_getElem hlt
    have h2 : g.Edges[s]? = some (g.Edges[s]'(by have := hr.len; omega)) := List.getElem?_eq_getElem _
    have hrow := hr.rows s (by have := hr.len; omega) _ h2
    have hcl : (counts ((rowsOf g).take s)).length = s := by rw [counts_len]; simp; omega
    have hfe := filled_eq (cs := counts ((rowsOf g).take s)) (n := g.Final.length) (by omega)
    rw [dawg_Count.b1, if_pos (by have := hr.len; simp; omega), idx_nat, h2, Option.bind_some, idx_nat, h1, Option.bind_some]
    split
    · rename_i hf
      have h3 : (filled (counts ((rowsOf g).take s)) g.Final.length)[s]? = some 0 := by
        rw [hfe, List.getElem?_append_right (by omega), hcl, Nat.sub_self]; rfl
      rw [idx_nat, h3, Option.bind_some, Int.toNat_natCast, hfe]
      have e := filled_set (cs := counts ((rowsOf g).take s)) (n := g.Final.length) (v := 1) (by omega) 0
      rw [hcl] at e
      unfold dawg_Count.k3
      rw [hcl, e]
      have := dawg_Count_row (N := g.Final.length) h2 h1 hlt hi (hs _ (List.getElem_mem _)) hrow (by omega) (n := 1) (by simp [hf]) rfl
      rwa [hcl] at this
    · rename_i hf
      unfold dawg_Count.k3
      rw [hfe]
      exact dawg_Count_row (N := g.Final.length) h2 h1 hlt hi (hs _ (List.getElem_mem _)) hrow (by omega) (n := 0) (by simp [hf]) rfl)
  have e0 : filled (counts ((rowsOf g).take 0)) g.Final.length = List.replicate (Int.toNat (g.Final.length : Int)) 0 := by simp [filled, counts]
  simp only [e0] at this
  rw [show ((0 : Nat) : Int) = 0 from rfl] at this
  rw [this]
  apply Loop_end
  rw [dawg_Count.b1, if_neg (by have := hr.len; simp; omega)]
  unfold dawg_Count.k1
  rw [List.take_of_length_le (by omega)]
  simp [filled, counts_len, hl]
theorem dawg_Count_bad {g : TGraph} (hs : Short g) (hr : ¬ RightP g) : dawg_Count g = some ([], 1) := by
  unfold dawg_Count
  rw [dawg_Right_eq hs, Option.bind_some, if_pos (by simp [hr])]
end Go.Val

/- part P4 -/
/- Plain lemmas: a state has as many ends as those that it leads to (DawgSum). -/
namespace Go.Val
set_option linter.unusedVariables false
def sumTo (cs : List Int) (n : Int) (xs : List TEdge) : Int := xs.foldl (fun n x => n + cs.getD x.To.toNat 0) n
theorem sumTo_snoc {cs : List Int} {n : Int} {xs : List TEdge} {x : TEdge} : sumTo cs n (xs ++ [x]) = sumTo cs n xs + cs.getD x.To.toNat 0 := by simp [sumTo]
theorem sumTo_bound {cs : List Int} (hc : ∀ c ∈ cs, 0 ≤ c ∧ c ≤ cap) {n : Int} (h1 : 0 ≤ n) (h2 : n ≤ 1) (xs : List TEdge) : 0 ≤ sumTo cs n xs ∧ sumTo cs n xs ≤ 1 + xs.length * cap := by
  induction xs using snoc_ind with
  | h0 => simp [sumTo]; omega
  | h1 xs x ih =>
    rw [sumTo_snoc]
    have := getD_bound hc x.To.toNat
    simp only [List.length_append, List.length_cons, List.length_nil, cap] at *
    omega
theorem crow_sum {cs : List Int} (hc : ∀ c ∈ cs, 0 ≤ c ∧ c ≤ cap) {n : Int} (h1 : 0 ≤ n) (h2 : n ≤ 1) (xs : List TEdge) : crow cs n xs = mn (sumTo cs n xs) cap := by
  induction xs using snoc_ind with
  | h0 =>
    show n = mn n cap
    unfold mn cap; split <;> omega
  | h1 xs x ih =>
    rw [crow_snoc, sumTo_snoc, ih]
    have := getD_bound hc x.To.toNat
    have := sumTo_bound hc h1 h2 xs
    unfold mn
    repeat' split
    all_goals omega
theorem sumTo_congr {cs cs' : List Int} {xs : List TEdge} {n : Int} (h : ∀ x ∈ xs, cs.getD x.To.toNat 0 = cs'.getD x.To.toNat 0) : sumTo cs n xs = sumTo cs' n xs := by
  induction xs using snoc_ind with
  | h0 => rfl
  | h1 xs x ih => rw [sumTo_snoc, sumTo_snoc, ih fun y hy => h y (by simp [hy]), h x (by simp)]

end Go.Val

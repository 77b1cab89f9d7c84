/- A value semantics of the model's programs, sound against it, and functions read off the given program with the proofs that it runs so; no condition. -/
import Derived.Test.YtobjdbpikecnnaaOwnD
import Derived.Test.YtobjdbpikecnnaaOwnC
set_option linter.all false
set_option linter.unnecessarySimpa false
set_option linter.unusedVariables false
set_option linter.unusedSimpArgs false
/- part GW28 -/
/- (*scansion/darray.Array).Start runs as it is read off. -/
namespace Go.Val
set_option linter.unusedVariables false
set_option linter.unusedSimpArgs false
set_option maxRecDepth 20000
open Go.Proofs
theorem darray_Array_Start_runs (a_ : Tdarray_Array) (l0 : Nat) {h : Heap} (ha0 : h.at_ l0 = some (.cells [.val (.sl (List.map eB a_.graph.Final)), .val (.sl (List.map (eL eEdge) a_.graph.Edges)), .row 3 (List.map eI a_.base), .row 91 (List.map edarray_cell a_.cells), .val (.sl (List.map eI a_.count))])) {a : Int} (e : darray_Array_Start a_ = some a) :
    Runs CT 28 [.cv (.val (.ptr (some (l0, 0))))] h fun o h' => o = [.cv (.val (.int .i64 a))] ∧ h' = h := by
  refine Runs.start Try.f28 _ Try.func28 rfl (by rw [Try.ntmps28]; simp) (by rfl) (by rfl) (fun hwf hu => ?_)
  have hl0 := (hwf _ _ ha0).1
  obtain ⟨D, hD, hr⟩ : ∃ D : Int → Prop, (∀ z, D z → z = a) ∧ Holds (darray_Array_Start a_) D := ⟨fun z => z = a, fun _ h => h, Holds.intro e rfl⟩
  dsimp only [darray_Array_Start] at hr
  change wpCode _ _ _ _ _ ⟨[(0, .cv (.val (.ptr (some (l0, 0)))))], h.on []⟩
  refine w_seq ?_
  refine w_region rfl (by simp (disch := (apply Apart.mk; decide)) only [go_sem, Nat.reduceAdd, Nat.reduceLT, Nat.reduceMul, Nat.reduceLeDiff, Nat.lt_irrefl, Int.reduceToNat, Int.reduceLT, Int.reduceLE, ha0, on_atB hl0, lt_add hl0, lt_at hl0]; rfl) ?_
  refine (w_n ?_)
  refine w_seq ?_
  refine w_region rfl (by simp (disch := (apply Apart.mk; decide)) only [go_sem, Nat.reduceAdd, Nat.reduceLT, Nat.reduceMul, Nat.reduceLeDiff, Nat.lt_irrefl, Int.reduceToNat, Int.reduceLT, Int.reduceLE, ha0, on_atB hl0, lt_add hl0, lt_at hl0]; rfl) ?_
  refine (w_n ?_)
  refine w_ret ?_
  obtain rfl := hD _ hr
  exact (w_endR (To.cut (os' := []) (sl := [(2, .cv (.val (.int .i64 (IntKind.i64.wrap ((a_.base.length : Int) - (1 : Int))))))]) hwf (Nat.le_refl _) (by first | rfl | (simp (disch := (apply Apart.mk; decide)) only [go_sem, Nat.reduceAdd, Nat.reduceLT, Nat.reduceMul, Nat.reduceLeDiff, Nat.lt_irrefl, Int.reduceToNat, Int.reduceLT, Int.reduceLE, ha0, on_atB hl0, lt_add hl0, lt_at hl0]; rfl)) (by simp (disch := (apply Apart.mk; decide)) only [go_sem, Nat.reduceAdd, Nat.reduceLT, Nat.reduceMul, Nat.reduceLeDiff, Nat.lt_irrefl, Int.reduceToNat, Int.reduceLT, Int.reduceLE, ha0, on_atB hl0, lt_add hl0, lt_at hl0])) (by simp (disch := (apply Apart.mk; decide)) only [go_sem, Nat.reduceAdd, Nat.reduceLT, Nat.reduceMul, Nat.reduceLeDiff, Nat.lt_irrefl, Int.reduceToNat, Int.reduceLT, Int.reduceLE, ha0, on_atB hl0, lt_add hl0, lt_at hl0, Try.results28, results_data CT_gives28, resCell, resVal.eq_2, loadOp_sv]) ⟨rfl, on_nil hwf⟩)
end Go.Val

/- part GW29 -/
/- (*scansion/darray.Array).Final runs as it is read off. -/
namespace Go.Val
set_option linter.unusedVariables false
set_option linter.unusedSimpArgs false
set_option maxRecDepth 20000
open Go.Proofs
theorem darray_Array_Final_runs (a_ : Tdarray_Array) (s : Int) (l0 : Nat) {h : Heap} (ha0 : h.at_ l0 = some (.cells [.val (.sl (List.map eB a_.graph.Final)), .val (.sl (List.map (eL eEdge) a_.graph.Edges)), .row 3 (List.map eI a_.base), .row 91 (List.map edarray_cell a_.cells), .val (.sl (List.map eI a_.count))])) {a : Bool} (e : darray_Array_Final a_ s = some a) :
    Runs CT 29 [.cv (.val (.ptr (some (l0, 0)))), .cv (.val (.int .i64 s))] h fun o h' => o = [.cv (.val (.bool a))] ∧ h' = h := by
  refine Runs.start Try.f29 _ Try.func29 rfl (by rw [Try.ntmps29]; simp) (by rfl) (by rfl) (fun hwf hu => ?_)
  have hl0 := (hwf _ _ ha0).1
  obtain ⟨D, hD, hr⟩ : ∃ D : Bool → Prop, (∀ z, D z → z = a) ∧ Holds (darray_Array_Final a_ s) D := ⟨fun z => z = a, fun _ h => h, Holds.intro e rfl⟩
  dsimp only [darray_Array_Final] at hr
  change wpCode _ _ _ _ _ ⟨[(0, .cv (.val (.ptr (some (l0, 0))))), (1, .cv (.val (.int .i64 s)))], h.on []⟩
  refine w_seq ?_
  refine w_region rfl (by simp (disch := (apply Apart.mk; decide)) only [go_sem, Nat.reduceAdd, Nat.reduceLT, Nat.reduceMul, Nat.reduceLeDiff, Nat.lt_irrefl, Int.reduceToNat, Int.reduceLT, Int.reduceLE, ha0, on_atB hl0, lt_add hl0, lt_at hl0]; rfl) ?_
  refine (w_n ?_)
  obtain ⟨v, vF6, hr⟩ := hr.bind
  refine w_joinR (sj := ⟨[(4, .cv (.val (.bool v)))], h.on []⟩) (w_ops rfl ?_) ?_
  · have hr := Holds.intro (D := fun z => z = v) vF6 rfl
    refine w_upto 2 rfl (by simp (disch := (apply Apart.mk; decide)) only [go_sem, Nat.reduceAdd, Nat.reduceLT, Nat.reduceMul, Nat.reduceLeDiff, Nat.lt_irrefl, Int.reduceToNat, Int.reduceLT, Int.reduceLE, ha0, on_atB hl0, lt_add hl0, lt_at hl0]; rfl) ?_
    obtain ⟨r, eF1, hr⟩ := hr.bind
    refine w_call' (out := ?o_eF1) (hp := ?p_eF1) rfl (by simp (disch := (apply Apart.mk; decide)) only [go_sem, Nat.reduceAdd, Nat.reduceLT, Nat.reduceMul, Nat.reduceLeDiff, Nat.lt_irrefl, Int.reduceToNat, Int.reduceLT, Int.reduceLE, ha0, on_atB hl0, lt_add hl0, lt_at hl0, Option.getD_some]; rfl) (by simp (disch := (apply Apart.mk; decide)) only [go_sem, Nat.reduceAdd, Nat.reduceLT, Nat.reduceMul, Nat.reduceLeDiff, Nat.lt_irrefl, Int.reduceToNat, Int.reduceLT, Int.reduceLE, ha0, on_atB hl0, lt_add hl0, lt_at hl0, Option.getD_some]; rfl) (by simp (disch := (apply Apart.mk; decide)) only [go_sem, Nat.reduceAdd, Nat.reduceLT, Nat.reduceMul, Nat.reduceLeDiff, Nat.lt_irrefl, Int.reduceToNat, Int.reduceLT, Int.reduceLE, ha0, on_atB hl0, lt_add hl0, lt_at hl0, Option.getD_some]; rfl) ?c_eF1 ?d_eF1 ?_
    case c_eF1 => (refine darray_Array_has_runs a_ s (l0) ?_ eF1; (simp (disch := (apply Apart.mk; decide)) only [go_sem, Nat.reduceAdd, Nat.reduceLT, Nat.reduceMul, Nat.reduceLeDiff, Nat.lt_irrefl, Int.reduceToNat, Int.reduceLT, Int.reduceLE, ha0, on_atB hl0, lt_add hl0, lt_at hl0]))
    case d_eF1 => rfl
    refine w_upto 1 rfl (by simp (disch := (apply Apart.mk; decide)) only [go_sem, Nat.reduceAdd, Nat.reduceLT, Nat.reduceMul, Nat.reduceLeDiff, Nat.lt_irrefl, Int.reduceToNat, Int.reduceLT, Int.reduceLE, ha0, on_atB hl0, lt_add hl0, lt_at hl0]; rfl) ?_
    rcases hr.ite with ⟨cF2, hr⟩ | ⟨cF2, hr⟩
    · obtain ⟨b, nF3, eF4, gF5, hr⟩ := hr.idx
      refine w_ops_end (by simp (disch := (apply Apart.mk; decide)) only [go_sem, Nat.reduceAdd, Nat.reduceLT, Nat.reduceMul, Nat.reduceLeDiff, Nat.lt_irrefl, Int.reduceToNat, Int.reduceLT, Int.reduceLE, ha0, on_atB hl0, lt_add hl0, lt_at hl0, cF2, nF3, eF4, gF5]; rfl) ?_
      obtain rfl : _ = v := hr
      exact w_k (To.cut hwf (Nat.le_refl _) (by first | rfl | (simp (disch := (apply Apart.mk; decide)) only [go_sem, Nat.reduceAdd, Nat.reduceLT, Nat.reduceMul, Nat.reduceLeDiff, Nat.lt_irrefl, Int.reduceToNat, Int.reduceLT, Int.reduceLE, ha0, on_atB hl0, lt_add hl0, lt_at hl0, cF2]; rfl)) (by simp (disch := (apply Apart.mk; decide)) only [go_sem, Nat.reduceAdd, Nat.reduceLT, Nat.reduceMul, Nat.reduceLeDiff, Nat.lt_irrefl, Int.reduceToNat, Int.reduceLT, Int.reduceLE, ha0, on_atB hl0, lt_add hl0, lt_at hl0, cF2]))
    · refine w_ops_end (by simp (disch := (apply Apart.mk; decide)) only [go_sem, Nat.reduceAdd, Nat.reduceLT, Nat.reduceMul, Nat.reduceLeDiff, Nat.lt_irrefl, Int.reduceToNat, Int.reduceLT, Int.reduceLE, ha0, on_atB hl0, lt_add hl0, lt_at hl0, cF2]; rfl) ?_
      obtain rfl : _ = v := hr
      exact w_k (To.cut hwf (Nat.le_refl _) (by first | rfl | (simp (disch := (apply Apart.mk; decide)) only [go_sem, Nat.reduceAdd, Nat.reduceLT, Nat.reduceMul, Nat.reduceLeDiff, Nat.lt_irrefl, Int.reduceToNat, Int.reduceLT, Int.reduceLE, ha0, on_atB hl0, lt_add hl0, lt_at hl0, cF2]; rfl)) (by simp (disch := (apply Apart.mk; decide)) only [go_sem, Nat.reduceAdd, Nat.reduceLT, Nat.reduceMul, Nat.reduceLeDiff, Nat.lt_irrefl, Int.reduceToNat, Int.reduceLT, Int.reduceLE, ha0, on_atB hl0, lt_add hl0, lt_at hl0, cF2]))
  refine w_ret ?_
  obtain rfl := hD _ hr
  exact (w_endR (To.cut (os' := []) (sl := [(4, .cv (.val (.bool v)))]) hwf (Nat.le_refl _) (by first | rfl | (simp (disch := (apply Apart.mk; decide)) only [go_sem, Nat.reduceAdd, Nat.reduceLT, Nat.reduceMul, Nat.reduceLeDiff, Nat.lt_irrefl, Int.reduceToNat, Int.reduceLT, Int.reduceLE, ha0, on_atB hl0, lt_add hl0, lt_at hl0]; rfl)) (by simp (disch := (apply Apart.mk; decide)) only [go_sem, Nat.reduceAdd, Nat.reduceLT, Nat.reduceMul, Nat.reduceLeDiff, Nat.lt_irrefl, Int.reduceToNat, Int.reduceLT, Int.reduceLE, ha0, on_atB hl0, lt_add hl0, lt_at hl0])) (by simp (disch := (apply Apart.mk; decide)) only [go_sem, Nat.reduceAdd, Nat.reduceLT, Nat.reduceMul, Nat.reduceLeDiff, Nat.lt_irrefl, Int.reduceToNat, Int.reduceLT, Int.reduceLE, ha0, on_atB hl0, lt_add hl0, lt_at hl0, Try.results29, results_data CT_gives29, resCell, resVal.eq_2, loadOp_sv]) ⟨rfl, on_nil hwf⟩)
end Go.Val

/- part GW31 -/
/- (*scansion/darray.Array).Words runs as it is read off. -/
namespace Go.Val
set_option linter.unusedVariables false
set_option linter.unusedSimpArgs false
set_option maxRecDepth 20000
open Go.Proofs
theorem darray_Array_Words_runs (a_ : Tdarray_Array) (l0 : Nat) {h : Heap} (ha0 : h.at_ l0 = some (.cells [.val (.sl (List.map eB a_.graph.Final)), .val (.sl (List.map (eL eEdge) a_.graph.Edges)), .row 3 (List.map eI a_.base), .row 91 (List.map edarray_cell a_.cells), .val (.sl (List.map eI a_.count))])) {a : Int} (e : darray_Array_Words a_ = some a) :
    Runs CT 31 [.cv (.val (.ptr (some (l0, 0))))] h fun o h' => o = [.cv (.val (.int .i64 a))] ∧ h' = h := by
  refine Runs.start Try.f31 _ Try.func31 rfl (by rw [Try.ntmps31]; simp) (by rfl) (by rfl) (fun hwf hu => ?_)
  have hl0 := (hwf _ _ ha0).1
  obtain ⟨D, hD, hr⟩ : ∃ D : Int → Prop, (∀ z, D z → z = a) ∧ Holds (darray_Array_Words a_) D := ⟨fun z => z = a, fun _ h => h, Holds.intro e rfl⟩
  dsimp only [darray_Array_Words] at hr
  change wpCode _ _ _ _ _ ⟨[(0, .cv (.val (.ptr (some (l0, 0)))))], h.on []⟩
  refine w_seq ?_
  refine w_region rfl (by simp (disch := (apply Apart.mk; decide)) only [go_sem, Nat.reduceAdd, Nat.reduceLT, Nat.reduceMul, Nat.reduceLeDiff, Nat.lt_irrefl, Int.reduceToNat, Int.reduceLT, Int.reduceLE, ha0, on_atB hl0, lt_add hl0, lt_at hl0]; rfl) ?_
  refine (w_n ?_)
  refine w_seq ?_
  refine w_drawn [0, 1, 2, 3, 4, 5, 6, 7, 8, 9, 10, 11, 12] (by rfl) ?_
  obtain ⟨n, nF1, eF2, gF3, hr⟩ := hr.idx
  refine p_run (l := [0, 1, 2, 3, 4, 5, 6, 7, 8, 9, 10, 11]) (pend' := [11, 10, 9, 8, 7, 6, 5, 4, 3, 2, 1, 0]) (by simp (disch := (apply Apart.mk; decide)) only [go_sem, Nat.reduceAdd, Nat.reduceLT, Nat.reduceMul, Nat.reduceLeDiff, Nat.lt_irrefl, Int.reduceToNat, Int.reduceLT, Int.reduceLE, ha0, on_atB hl0, lt_add hl0, lt_at hl0, nF1, eF2, gF3]; rfl) rfl ?_
  refine p_op (pend' := []) rfl (by simp (disch := (apply Apart.mk; decide)) only [go_sem, Nat.reduceAdd, Nat.reduceLT, Nat.reduceMul, Nat.reduceLeDiff, Nat.lt_irrefl, Int.reduceToNat, Int.reduceLT, Int.reduceLE, ha0, on_atB hl0, lt_add hl0, lt_at hl0, nF1, eF2, gF3]) (by simp (disch := (apply Apart.mk; decide)) only [go_sem, Nat.reduceAdd, Nat.reduceLT, Nat.reduceMul, Nat.reduceLeDiff, Nat.lt_irrefl, Int.reduceToNat, Int.reduceLT, Int.reduceLE, ha0, on_atB hl0, lt_add hl0, lt_at hl0, nF1, eF2, gF3]; rfl) (by rfl) ?_
  refine p_end (by simp (disch := (apply Apart.mk; decide)) only [go_sem, Nat.reduceAdd, Nat.reduceLT, Nat.reduceMul, Nat.reduceLeDiff, Nat.lt_irrefl, Int.reduceToNat, Int.reduceLT, Int.reduceLE, ha0, on_atB hl0, lt_add hl0, lt_at hl0, nF1, eF2, gF3]) ?_
  refine (w_n ?_)
  refine w_ret ?_
  obtain rfl := hD _ hr
  exact (w_endR (To.cut (os' := []) (sl := [(2, .cv (.val (.int .i64 n)))]) hwf (Nat.le_refl _) (by first | rfl | (simp (disch := (apply Apart.mk; decide)) only [go_sem, Nat.reduceAdd, Nat.reduceLT, Nat.reduceMul, Nat.reduceLeDiff, Nat.lt_irrefl, Int.reduceToNat, Int.reduceLT, Int.reduceLE, ha0, on_atB hl0, lt_add hl0, lt_at hl0]; rfl)) (by simp (disch := (apply Apart.mk; decide)) only [go_sem, Nat.reduceAdd, Nat.reduceLT, Nat.reduceMul, Nat.reduceLeDiff, Nat.lt_irrefl, Int.reduceToNat, Int.reduceLT, Int.reduceLE, ha0, on_atB hl0, lt_add hl0, lt_at hl0])) (by simp (disch := (apply Apart.mk; decide)) only [go_sem, Nat.reduceAdd, Nat.reduceLT, Nat.reduceMul, Nat.reduceLeDiff, Nat.lt_irrefl, Int.reduceToNat, Int.reduceLT, Int.reduceLE, ha0, on_atB hl0, lt_add hl0, lt_at hl0, Try.results31, results_data CT_gives31, resCell, resVal.eq_2, loadOp_sv]) ⟨rfl, on_nil hwf⟩)
end Go.Val

/- part GW77 -/
/- scansion/dawg.walk$1 runs as it is read off. -/
namespace Go.Val
set_option linter.unusedVariables false
set_option linter.unusedSimpArgs false
set_option maxRecDepth 20000
open Go.Proofs
theorem dawg_walk_1_runs (x : TEdge) (p1 : Str) (p2 : Int) (l1 : Nat) (l2 : Nat) {h : Heap} (ha1 : h.at_ l1 = some (.cells [.val (.str (bs p1))])) (ha2 : h.at_ l2 = some (.cells [.val (.int .i64 p2)])) (hn1_2 : l1 ≠ l2) {a : Bool} (e : dawg_walk_1 x p1 p2 = some a) :
    Runs CT 77 [.cv (.val (.agg [.int .u8 (x.Label.toNat : Int), .int .i64 x.To])), .cv (.val (.ptr (some (l1, 0)))), .cv (.val (.ptr (some (l2, 0))))] h fun o h' => o = [.cv (.val (.bool a))] ∧ h' = h := by
  refine Runs.start Try.f77 _ Try.func77 rfl (by rw [Try.ntmps77]; simp) (by rfl) (by rfl) (fun hwf hu => ?_)
  have hl1 := (hwf _ _ ha1).1
  have hl2 := (hwf _ _ ha2).1
  obtain ⟨D, hD, hr⟩ : ∃ D : Bool → Prop, (∀ z, D z → z = a) ∧ Holds (dawg_walk_1 x p1 p2) D := ⟨fun z => z = a, fun _ h => h, Holds.intro e rfl⟩
  dsimp only [dawg_walk_1] at hr
  change wpCode _ _ _ _ _ ⟨[(0, .cv (.val (.agg [.int .u8 (x.Label.toNat : Int), .int .i64 x.To]))), (1, .cv (.val (.ptr (some (l1, 0))))), (2, .cv (.val (.ptr (some (l2, 0)))))], h.on []⟩
  refine w_seq ?_
  refine w_region rfl (by simp (disch := (apply Apart.mk; decide)) only [go_sem, Nat.reduceAdd, Nat.reduceLT, Nat.reduceMul, Nat.reduceLeDiff, Nat.lt_irrefl, Int.reduceToNat, Int.reduceLT, Int.reduceLE, ha1, on_atB hl1, lt_add hl1, lt_at hl1, ha2, on_atB hl2, lt_add hl2, lt_at hl2]; rfl) ?_
  refine (w_n ?_)
  refine w_seq ?_
  refine w_drawn [0, 1, 2, 3, 4, 5, 6] (by rfl) ?_
  obtain ⟨c, nF1, eF2, gF3, hr⟩ := hr.idx
  refine p_run (l := [0, 1, 2, 3, 4, 5]) (pend' := [5, 4, 3, 2, 1, 0]) (by simp (disch := (apply Apart.mk; decide)) only [go_sem, Nat.reduceAdd, Nat.reduceLT, Nat.reduceMul, Nat.reduceLeDiff, Nat.lt_irrefl, Int.reduceToNat, Int.reduceLT, Int.reduceLE, ha1, on_atB hl1, lt_add hl1, lt_at hl1, ha2, on_atB hl2, lt_add hl2, lt_at hl2, nF1, eF2, gF3]; rfl) rfl ?_
  refine p_op (pend' := []) rfl (by simp (disch := (apply Apart.mk; decide)) only [go_sem, Nat.reduceAdd, Nat.reduceLT, Nat.reduceMul, Nat.reduceLeDiff, Nat.lt_irrefl, Int.reduceToNat, Int.reduceLT, Int.reduceLE, ha1, on_atB hl1, lt_add hl1, lt_at hl1, ha2, on_atB hl2, lt_add hl2, lt_at hl2, nF1, eF2, gF3]) (by simp (disch := (apply Apart.mk; decide)) only [go_sem, Nat.reduceAdd, Nat.reduceLT, Nat.reduceMul, Nat.reduceLeDiff, Nat.lt_irrefl, Int.reduceToNat, Int.reduceLT, Int.reduceLE, ha1, on_atB hl1, lt_add hl1, lt_at hl1, ha2, on_atB hl2, lt_add hl2, lt_at hl2, nF1, eF2, gF3]; rfl) (by rfl) ?_
  refine p_end (by simp (disch := (apply Apart.mk; decide)) only [go_sem, Nat.reduceAdd, Nat.reduceLT, Nat.reduceMul, Nat.reduceLeDiff, Nat.lt_irrefl, Int.reduceToNat, Int.reduceLT, Int.reduceLE, ha1, on_atB hl1, lt_add hl1, lt_at hl1, ha2, on_atB hl2, lt_add hl2, lt_at hl2, nF1, eF2, gF3]) ?_
  refine (w_n ?_)
  refine w_ret ?_
  obtain rfl := hD _ hr
  exact (w_endR (To.cut (os' := []) (sl := [(4, .cv (.val (.bool ((x.Label.toNat : Int) == (c.toNat : Int)))))]) hwf (Nat.le_refl _) (by first | rfl | (simp (disch := (apply Apart.mk; decide)) only [go_sem, Nat.reduceAdd, Nat.reduceLT, Nat.reduceMul, Nat.reduceLeDiff, Nat.lt_irrefl, Int.reduceToNat, Int.reduceLT, Int.reduceLE, ha1, on_atB hl1, lt_add hl1, lt_at hl1, ha2, on_atB hl2, lt_add hl2, lt_at hl2]; rfl)) (by simp (disch := (apply Apart.mk; decide)) only [go_sem, Nat.reduceAdd, Nat.reduceLT, Nat.reduceMul, Nat.reduceLeDiff, Nat.lt_irrefl, Int.reduceToNat, Int.reduceLT, Int.reduceLE, ha1, on_atB hl1, lt_add hl1, lt_at hl1, ha2, on_atB hl2, lt_add hl2, lt_at hl2])) (by simp (disch := (apply Apart.mk; decide)) only [go_sem, Nat.reduceAdd, Nat.reduceLT, Nat.reduceMul, Nat.reduceLeDiff, Nat.lt_irrefl, Int.reduceToNat, Int.reduceLT, Int.reduceLE, ha1, on_atB hl1, lt_add hl1, lt_at hl1, ha2, on_atB hl2, lt_add hl2, lt_at hl2, Try.results77, results_data CT_gives77, resCell, resVal.eq_2, loadOp_sv]) ⟨rfl, on_nil hwf⟩)
end Go.Val

/- part GW52 -/
/- scansion/dawg.walk runs as it is read off. -/
namespace Go.Val
set_option linter.unusedVariables false
set_option linter.unusedSimpArgs false
set_option maxRecDepth 20000
open Go.Proofs
theorem dawg_walk_runs (g : TGraph) (word : Str) {h : Heap} {a : (List Int × Bool)} (e : dawg_walk g word = some a) :
    Runs CT 52 [.cv (.val (.agg [.sl (List.map eB g.Final), .sl (List.map (eL eEdge) g.Edges)])), .cv (.val (.str (bs word)))] h fun o h' => o = [.cv (.val (.sl (List.map eI a.1))), .cv (.val (.bool a.2))] ∧ h' = h := by
  refine Runs.start Try.f52 _ Try.func52 rfl (by rw [Try.ntmps52]; simp) (by rfl) (by rfl) (fun hwf hu => ?_)
  obtain ⟨D, hD, hr⟩ : ∃ D : (List Int × Bool) → Prop, (∀ z, D z → z = a) ∧ Holds (dawg_walk g word) D := ⟨fun z => z = a, fun _ h => h, Holds.intro e rfl⟩
  dsimp only [dawg_walk] at hr
  change wpCode _ _ _ _ _ ⟨[(0, .cv (.val (.agg [.sl (List.map eB g.Final), .sl (List.map (eL eEdge) g.Edges)]))), (1, .cv (.val (.str (bs word))))], h.on []⟩
  refine w_seq ?_
  refine w_region rfl (by simp (disch := (apply Apart.mk; decide)) only [go_sem, Nat.reduceAdd, Nat.reduceLT, Nat.reduceMul, Nat.reduceLeDiff, Nat.lt_irrefl, Int.reduceToNat, Int.reduceLT, Int.reduceLE]; rfl) ?_
  refine (w_n ?_)
  refine w_seq ?_
  refine w_region rfl (by simp (disch := (apply Apart.mk; decide)) only [go_sem, Nat.reduceAdd, Nat.reduceLT, Nat.reduceMul, Nat.reduceLeDiff, Nat.lt_irrefl, Int.reduceToNat, Int.reduceLT, Int.reduceLE]; rfl) ?_
  refine (w_n ?_)
  refine w_seq ?_
  refine w_seq ?_
  refine w_region rfl (by simp (disch := (apply Apart.mk; decide)) only [go_sem, Nat.reduceAdd, Nat.reduceLT, Nat.reduceMul, Nat.reduceLeDiff, Nat.lt_irrefl, Int.reduceToNat, Int.reduceLT, Int.reduceLE]; rfl) ?_
  refine (w_n ?_)
  refine w_K (D := D) (fun xX : List Int => ⟨[(6, .cv (.row 3 (List.map eI xX)))], h.on []⟩) (fun xX : List Int => dawg_walk.k1 xX) (fun xX s' hr ht => ?_) ?_
  · obtain ⟨at_, rfl⟩ : ∃ z, z = xX := ⟨xX, rfl⟩
    dsimp only [dawg_walk.k1] at hr ht
    refine (w_nT ht ?_)
    refine w_seq ?_
    refine w_region rfl (by simp (disch := (apply Apart.mk; decide)) only [go_sem, Nat.reduceAdd, Nat.reduceLT, Nat.reduceMul, Nat.reduceLeDiff, Nat.lt_irrefl, Int.reduceToNat, Int.reduceLT, Int.reduceLE]; rfl) ?_
    refine (w_n ?_)
    refine w_ret ?_
    obtain rfl := hD _ hr
    exact (w_endR (.fix _ _ (.slot 4) 3 _ (by simp (disch := (apply Apart.mk; decide)) only [go_sem, Nat.reduceAdd, Nat.reduceLT, Nat.reduceMul, Nat.reduceLeDiff, Nat.lt_irrefl, Int.reduceToNat, Int.reduceLT, Int.reduceLE]; rfl) (To.cut (os' := []) (sl := [(4, .cv (.val (.sl (List.map eI at_)))), (5, .cv (.val (.bool true)))]) hwf (Nat.le_refl _) rfl (by simp (disch := (apply Apart.mk; decide)) only [go_sem, Nat.reduceAdd, Nat.reduceLT, Nat.reduceMul, Nat.reduceLeDiff, Nat.lt_irrefl, Int.reduceToNat, Int.reduceLT, Int.reduceLE]))) (by simp (disch := (apply Apart.mk; decide)) only [go_sem, Nat.reduceAdd, Nat.reduceLT, Nat.reduceMul, Nat.reduceLeDiff, Nat.lt_irrefl, Int.reduceToNat, Int.reduceLT, Int.reduceLE, Try.results52, results_data CT_gives52, resCell, resVal.eq_2, loadOp_sv]) ⟨rfl, on_nil hwf⟩)
  · refine w_block ?_
    refine w_Loop (fun xX : (List Int × Int) => ⟨[(2, .cv (.val (.ptr (some (h.n + 0, 0))))), (3, .cv (.val (.ptr (some (h.n + 1, 0))))), (6, .cv (.row 3 (List.map eI xX.1))), (16, .cv (.val (.int .i64 (word.length : Int)))), (17, .cv (.val (.int .i64 xX.2)))], h.on [some (.cells [.val (.sl (List.map eB g.Final)), .val (.sl (List.map (eL eEdge) g.Edges))]), some (.cells [.val (.str (bs word))])]⟩) hr (To.cut hwf (Nat.le_refl _) rfl (by simp (disch := (apply Apart.mk; decide)) only [go_sem, Nat.reduceAdd, Nat.reduceLT, Nat.reduceMul, Nat.reduceLeDiff, Nat.lt_irrefl, Int.reduceToNat, Int.reduceLT, Int.reduceLE])) (fun W1 xX hr => ?_)
    obtain ⟨at_1, v⟩ := xX
    dsimp only [dawg_walk.b1] at hr
    refine w_seq ?_
    refine w_region rfl (by simp (disch := (apply Apart.mk; decide)) only [go_sem, Nat.reduceAdd, Nat.reduceLT, Nat.reduceMul, Nat.reduceLeDiff, Nat.lt_irrefl, Int.reduceToNat, Int.reduceLT, Int.reduceLE]; rfl) ?_
    refine (w_n ?_)
    refine w_seq ?_
    refine w_condH (by simp (disch := (apply Apart.mk; decide)) only [go_sem, Nat.reduceAdd, Nat.reduceLT, Nat.reduceMul, Nat.reduceLeDiff, Nat.lt_irrefl, Int.reduceToNat, Int.reduceLT, Int.reduceLE]) hr (fun cF1 hr => ?_) (fun cF1 hr => ?_)
    · refine w_skip ?_
      refine (w_n ?_)
      refine w_seq ?_
      refine w_block ?_
      refine w_seq ?_
      refine w_region rfl (by simp (disch := (apply Apart.mk; decide)) only [go_sem, Nat.reduceAdd, Nat.reduceLT, Nat.reduceMul, Nat.reduceLeDiff, Nat.lt_irrefl, Int.reduceToNat, Int.reduceLT, Int.reduceLE, cF1]; rfl) ?_
      refine (w_n ?_)
      refine w_seq ?_
      refine w_drawn [0, 1, 2, 3, 4, 5, 6, 7, 8] (by rfl) ?_
      obtain ⟨n, nF2, eF3, gF4, hr⟩ := hr.idx
      obtain ⟨xs, nF5, eF6, gF7, hr⟩ := hr.idx
      refine p_run (l := [0, 1, 2, 3, 4, 5, 6, 7]) (pend' := [7, 6, 5, 4, 3, 2, 1, 0]) (by simp (disch := (apply Apart.mk; decide)) only [go_sem, Nat.reduceAdd, Nat.reduceLT, Nat.reduceMul, Nat.reduceLeDiff, Nat.lt_irrefl, Int.reduceToNat, Int.reduceLT, Int.reduceLE, nF2, eF3, gF4, nF5, eF6, gF7]; rfl) rfl ?_
      refine p_op (pend' := []) rfl (by simp (disch := (apply Apart.mk; decide)) only [go_sem, Nat.reduceAdd, Nat.reduceLT, Nat.reduceMul, Nat.reduceLeDiff, Nat.lt_irrefl, Int.reduceToNat, Int.reduceLT, Int.reduceLE, nF2, eF3, gF4, nF5, eF6, gF7]) (by simp (disch := (apply Apart.mk; decide)) only [go_sem, Nat.reduceAdd, Nat.reduceLT, Nat.reduceMul, Nat.reduceLeDiff, Nat.lt_irrefl, Int.reduceToNat, Int.reduceLT, Int.reduceLE, nF2, eF3, gF4, nF5, eF6, gF7]; rfl) (by rfl) ?_
      refine p_end (by simp (disch := (apply Apart.mk; decide)) only [go_sem, Nat.reduceAdd, Nat.reduceLT, Nat.reduceMul, Nat.reduceLeDiff, Nat.lt_irrefl, Int.reduceToNat, Int.reduceLT, Int.reduceLE, nF2, eF3, gF4, nF5, eF6, gF7]) ?_
      refine (w_n ?_)
      refine w_seq ?_
      refine w_ops rfl ?_
      refine w_upto 2 rfl (by simp (disch := (apply Apart.mk; decide)) only [go_sem, Nat.reduceAdd, Nat.reduceLT, Nat.reduceMul, Nat.reduceLeDiff, Nat.lt_irrefl, Int.reduceToNat, Int.reduceLT, Int.reduceLE]; rfl) ?_
      obtain ⟨r, eF8, hr⟩ := hr.bind
      refine w_call' (out := ?o_eF8) (hp := ?p_eF8) rfl (by simp (disch := (apply Apart.mk; decide)) only [go_sem, Nat.reduceAdd, Nat.reduceLT, Nat.reduceMul, Nat.reduceLeDiff, Nat.lt_irrefl, Int.reduceToNat, Int.reduceLT, Int.reduceLE, Option.getD_some]; rfl) (by simp (disch := (apply Apart.mk; decide)) only [go_sem, Nat.reduceAdd, Nat.reduceLT, Nat.reduceMul, Nat.reduceLeDiff, Nat.lt_irrefl, Int.reduceToNat, Int.reduceLT, Int.reduceLE, Option.getD_some]; rfl) (by simp (disch := (apply Apart.mk; decide)) only [go_sem, Nat.reduceAdd, Nat.reduceLT, Nat.reduceMul, Nat.reduceLeDiff, Nat.lt_irrefl, Int.reduceToNat, Int.reduceLT, Int.reduceLE, Option.getD_some]; rfl) ?c_eF8 ?d_eF8 ?_
      case c_eF8 => (refine slices_IndexFunc_api_Edge_api_Edge_runs xs (fun x0 => dawg_walk_1 x0 word v) _ _ ?_ eF8; (exact (fun os x0 r e => dawg_walk_1_runs x0 word v (h.n + 1) (h.n + 2) (by simp (disch := (apply Apart.mk; decide)) only [go_sem, Nat.reduceAdd, Nat.reduceLT, Nat.reduceMul, Nat.reduceLeDiff, Nat.lt_irrefl, Int.reduceToNat, Int.reduceLT, Int.reduceLE]) (by simp (disch := (apply Apart.mk; decide)) only [go_sem, Nat.reduceAdd, Nat.reduceLT, Nat.reduceMul, Nat.reduceLeDiff, Nat.lt_irrefl, Int.reduceToNat, Int.reduceLT, Int.reduceLE]) (by first | omega | assumption | exact Ne.symm (by assumption)) e)))
      case d_eF8 => rfl
      refine w_ops_end (by simp (disch := (apply Apart.mk; decide)) only [go_sem, Nat.reduceAdd, Nat.reduceLT, Nat.reduceMul, Nat.reduceLeDiff, Nat.lt_irrefl, Int.reduceToNat, Int.reduceLT, Int.reduceLE]; rfl) ?_
      refine (w_n ?_)
      refine w_seq ?_
      refine w_seq ?_
      refine w_region rfl (by simp (disch := (apply Apart.mk; decide)) only [go_sem, Nat.reduceAdd, Nat.reduceLT, Nat.reduceMul, Nat.reduceLeDiff, Nat.lt_irrefl, Int.reduceToNat, Int.reduceLT, Int.reduceLE, cF1]; rfl) ?_
      refine (w_n ?_)
      refine w_condH (by simp (disch := (apply Apart.mk; decide)) only [go_sem, Nat.reduceAdd, Nat.reduceLT, Nat.reduceMul, Nat.reduceLeDiff, Nat.lt_irrefl, Int.reduceToNat, Int.reduceLT, Int.reduceLE, cF1]) hr (fun cF9 hr => ?_) (fun cF9 hr => ?_)
      · refine w_seq ?_
        refine w_region rfl (by simp (disch := (apply Apart.mk; decide)) only [go_sem, Nat.reduceAdd, Nat.reduceLT, Nat.reduceMul, Nat.reduceLeDiff, Nat.lt_irrefl, Int.reduceToNat, Int.reduceLT, Int.reduceLE, cF1, cF9]; rfl) ?_
        refine (w_n ?_)
        refine w_ret ?_
        obtain rfl := hD _ hr
        exact (w_tr (w_br (w_tr (w_tr (w_br (w_tr (w_tr (w_endR (To.cut (os' := []) (sl := [(4, .cv (.val (.sl (List.map eI ([] : List Int))))), (5, .cv (.val (.bool false)))]) hwf (Nat.le_refl _) rfl (by simp (disch := (apply Apart.mk; decide)) only [go_sem, Nat.reduceAdd, Nat.reduceLT, Nat.reduceMul, Nat.reduceLeDiff, Nat.lt_irrefl, Int.reduceToNat, Int.reduceLT, Int.reduceLE, cF1, cF9])) (by simp (disch := (apply Apart.mk; decide)) only [go_sem, Nat.reduceAdd, Nat.reduceLT, Nat.reduceMul, Nat.reduceLeDiff, Nat.lt_irrefl, Int.reduceToNat, Int.reduceLT, Int.reduceLE, Try.results52, results_data CT_gives52, resCell, resVal.eq_2, loadOp_sv, cF1, cF9]) ⟨rfl, on_nil hwf⟩))))))))
      · refine w_skip ?_
        refine (w_n ?_)
        obtain ⟨x, nF10, eF11, gF12, hr⟩ := hr.idx
        obtain ⟨nF13, hr⟩ := hr.room
        refine w_region rfl (by simp (disch := (apply Apart.mk; decide)) only [go_sem, Nat.reduceAdd, Nat.reduceLT, Nat.reduceMul, Nat.reduceLeDiff, Nat.lt_irrefl, Int.reduceToNat, Int.reduceLT, Int.reduceLE, nF10, eF11, gF12, nF13, cF1, cF9]; rfl) ?_
        refine (w_bn (w_n ?_))
        refine w_region rfl (by simp (disch := (apply Apart.mk; decide)) only [go_sem, Nat.reduceAdd, Nat.reduceLT, Nat.reduceMul, Nat.reduceLeDiff, Nat.lt_irrefl, Int.reduceToNat, Int.reduceLT, Int.reduceLE, cF1, cF9]; rfl) ?_
        exact (w_k ⟨((at_1 ++ ([x.To])), (IntKind.i64.wrap (v + (1 : Int)))), hr, (To.cut hwf (Nat.le_refl _) rfl (by simp (disch := (apply Apart.mk; decide)) only [go_sem, Nat.reduceAdd, Nat.reduceLT, Nat.reduceMul, Nat.reduceLeDiff, Nat.lt_irrefl, Int.reduceToNat, Int.reduceLT, Int.reduceLE, cF1, cF9]))⟩)
    · refine w_exit ?_
      exact (w_te (w_te (w_bx (w_k ⟨at_1, (hr).map, (To.cut hwf (Nat.le_refl _) rfl (by simp (disch := (apply Apart.mk; decide)) only [go_sem, Nat.reduceAdd, Nat.reduceLT, Nat.reduceMul, Nat.reduceLeDiff, Nat.lt_irrefl, Int.reduceToNat, Int.reduceLT, Int.reduceLE, cF1]))⟩))))
end Go.Val

/- part GW36 -/
/- scansion/dawg.Number runs as it is read off. -/
namespace Go.Val
set_option linter.unusedVariables false
set_option linter.unusedSimpArgs false
set_option maxRecDepth 20000
open Go.Proofs
theorem dawg_Number_runs (g : TGraph) (word : Str) {h : Heap} {a : (Int × Int)} (e : dawg_Number g word = some a) :
    Runs CT 36 [.cv (.val (.agg [.sl (List.map eB g.Final), .sl (List.map (eL eEdge) g.Edges)])), .cv (.val (.str (bs word)))] h fun o h' => o = [.cv (.val (.int .i64 a.1)), .cv (.val (.int .i64 a.2))] ∧ h' = h := by
  refine Runs.start Try.f36 _ Try.func36 rfl (by rw [Try.ntmps36]; simp) (by rfl) (by rfl) (fun hwf hu => ?_)
  obtain ⟨D, hD, hr⟩ : ∃ D : (Int × Int) → Prop, (∀ z, D z → z = a) ∧ Holds (dawg_Number g word) D := ⟨fun z => z = a, fun _ h => h, Holds.intro e rfl⟩
  dsimp only [dawg_Number] at hr
  change wpCode _ _ _ _ _ ⟨[(0, .cv (.val (.agg [.sl (List.map eB g.Final), .sl (List.map (eL eEdge) g.Edges)]))), (1, .cv (.val (.str (bs word))))], h.on []⟩
  refine w_seq ?_
  refine w_region rfl (by simp (disch := (apply Apart.mk; decide)) only [go_sem, Nat.reduceAdd, Nat.reduceLT, Nat.reduceMul, Nat.reduceLeDiff, Nat.lt_irrefl, Int.reduceToNat, Int.reduceLT, Int.reduceLE]; rfl) ?_
  refine (w_n ?_)
  refine w_seq ?_
  refine w_ops rfl ?_
  refine w_upto 1 rfl (by simp (disch := (apply Apart.mk; decide)) only [go_sem, Nat.reduceAdd, Nat.reduceLT, Nat.reduceMul, Nat.reduceLeDiff, Nat.lt_irrefl, Int.reduceToNat, Int.reduceLT, Int.reduceLE]; rfl) ?_
  obtain ⟨r, eF1, hr⟩ := hr.bind
  refine w_call' (out := ?o_eF1) (hp := ?p_eF1) rfl (by simp (disch := (apply Apart.mk; decide)) only [go_sem, Nat.reduceAdd, Nat.reduceLT, Nat.reduceMul, Nat.reduceLeDiff, Nat.lt_irrefl, Int.reduceToNat, Int.reduceLT, Int.reduceLE, Option.getD_some]; rfl) (by simp (disch := (apply Apart.mk; decide)) only [go_sem, Nat.reduceAdd, Nat.reduceLT, Nat.reduceMul, Nat.reduceLeDiff, Nat.lt_irrefl, Int.reduceToNat, Int.reduceLT, Int.reduceLE, Option.getD_some]; rfl) (by simp (disch := (apply Apart.mk; decide)) only [go_sem, Nat.reduceAdd, Nat.reduceLT, Nat.reduceMul, Nat.reduceLeDiff, Nat.lt_irrefl, Int.reduceToNat, Int.reduceLT, Int.reduceLE, Option.getD_some]; rfl) ?c_eF1 ?d_eF1 ?_
  case c_eF1 => exact dawg_Count_runs g eF1
  case d_eF1 => rfl
  refine w_ops_end (by simp (disch := (apply Apart.mk; decide)) only [go_sem, Nat.reduceAdd, Nat.reduceLT, Nat.reduceMul, Nat.reduceLeDiff, Nat.lt_irrefl, Int.reduceToNat, Int.reduceLT, Int.reduceLE]; rfl) ?_
  refine (w_n ?_)
  refine w_seq ?_
  refine w_seq ?_
  refine w_region rfl (by simp (disch := (apply Apart.mk; decide)) only [go_sem, Nat.reduceAdd, Nat.reduceLT, Nat.reduceMul, Nat.reduceLeDiff, Nat.lt_irrefl, Int.reduceToNat, Int.reduceLT, Int.reduceLE]; rfl) ?_
  refine (w_n ?_)
  refine w_condH (by simp (disch := (apply Apart.mk; decide)) only [go_sem, Nat.reduceAdd, Nat.reduceLT, Nat.reduceMul, Nat.reduceLeDiff, Nat.lt_irrefl, Int.reduceToNat, Int.reduceLT, Int.reduceLE]) hr (fun cF2 hr => ?_) (fun cF2 hr => ?_)
  · refine w_seq ?_
    refine w_region rfl (by simp (disch := (apply Apart.mk; decide)) only [go_sem, Nat.reduceAdd, Nat.reduceLT, Nat.reduceMul, Nat.reduceLeDiff, Nat.lt_irrefl, Int.reduceToNat, Int.reduceLT, Int.reduceLE, cF2]; rfl) ?_
    refine (w_n ?_)
    refine w_ret ?_
    obtain rfl := hD _ hr
    exact (w_tr (w_endR (To.cut (os' := []) (sl := [(4, .cv (.val (.int .i64 (0 : Int)))), (5, .cv (.val (.int .i64 r.2)))]) hwf (Nat.le_refl _) rfl (by simp (disch := (apply Apart.mk; decide)) only [go_sem, Nat.reduceAdd, Nat.reduceLT, Nat.reduceMul, Nat.reduceLeDiff, Nat.lt_irrefl, Int.reduceToNat, Int.reduceLT, Int.reduceLE, cF2])) (by simp (disch := (apply Apart.mk; decide)) only [go_sem, Nat.reduceAdd, Nat.reduceLT, Nat.reduceMul, Nat.reduceLeDiff, Nat.lt_irrefl, Int.reduceToNat, Int.reduceLT, Int.reduceLE, Try.results36, results_data CT_gives36, resCell, resVal.eq_2, loadOp_sv, cF2]) ⟨rfl, on_nil hwf⟩))
  · refine w_skip ?_
    refine (w_n ?_)
    refine w_seq ?_
    refine w_ops rfl ?_
    refine w_upto 2 rfl (by simp (disch := (apply Apart.mk; decide)) only [go_sem, Nat.reduceAdd, Nat.reduceLT, Nat.reduceMul, Nat.reduceLeDiff, Nat.lt_irrefl, Int.reduceToNat, Int.reduceLT, Int.reduceLE]; rfl) ?_
    obtain ⟨r1, eF3, hr⟩ := hr.bind
    refine w_call' (out := ?o_eF3) (hp := ?p_eF3) rfl (by simp (disch := (apply Apart.mk; decide)) only [go_sem, Nat.reduceAdd, Nat.reduceLT, Nat.reduceMul, Nat.reduceLeDiff, Nat.lt_irrefl, Int.reduceToNat, Int.reduceLT, Int.reduceLE, Option.getD_some]; rfl) (by simp (disch := (apply Apart.mk; decide)) only [go_sem, Nat.reduceAdd, Nat.reduceLT, Nat.reduceMul, Nat.reduceLeDiff, Nat.lt_irrefl, Int.reduceToNat, Int.reduceLT, Int.reduceLE, Option.getD_some]; rfl) (by simp (disch := (apply Apart.mk; decide)) only [go_sem, Nat.reduceAdd, Nat.reduceLT, Nat.reduceMul, Nat.reduceLeDiff, Nat.lt_irrefl, Int.reduceToNat, Int.reduceLT, Int.reduceLE, Option.getD_some]; rfl) ?c_eF3 ?d_eF3 ?_
    case c_eF3 => exact dawg_walk_runs g word eF3
    case d_eF3 => rfl
    refine w_ops_end (by simp (disch := (apply Apart.mk; decide)) only [go_sem, Nat.reduceAdd, Nat.reduceLT, Nat.reduceMul, Nat.reduceLeDiff, Nat.lt_irrefl, Int.reduceToNat, Int.reduceLT, Int.reduceLE]; rfl) ?_
    refine (w_n ?_)
    refine w_seq ?_
    obtain ⟨v, vF11, hr⟩ := hr.bind
    refine w_joinR (sj := ⟨[(1, .cv (.val (.str (bs word)))), (2, .cv (.val (.ptr (some (h.n + 0, 0))))), (6, .cv (.val (.sl (List.map eI r.1)))), (8, .cv (.val (.sl (List.map eI r1.1)))), (41, .cv (.val (.bool v)))], h.on [some (.cells [.val (.sl (List.map eB g.Final)), .val (.sl (List.map (eL eEdge) g.Edges))])]⟩) (w_drawn [0, 1, 2, 3, 4, 5, 6, 7, 8, 9, 10, 11, 12, 13] (by rfl) ?_) ?_
    · have hr := Holds.intro (D := fun z => z = v) vF11 rfl
      refine p_run (l := [0, 1, 2]) (pend' := [2, 1, 0]) (by simp (disch := (apply Apart.mk; decide)) only [go_sem, Nat.reduceAdd, Nat.reduceLT, Nat.reduceMul, Nat.reduceLeDiff, Nat.lt_irrefl, Int.reduceToNat, Int.reduceLT, Int.reduceLE]; rfl) rfl ?_
      rcases hr.ite with ⟨cF4, hr⟩ | ⟨cF4, hr⟩
      · refine p_run (l := [3, 4, 5, 6, 7, 8, 9, 10, 11, 12, 13]) (pend' := [13, 12, 11, 10, 9, 8, 7, 6, 5, 4, 3, 2, 1, 0]) (by simp (disch := (apply Apart.mk; decide)) only [go_sem, Nat.reduceAdd, Nat.reduceLT, Nat.reduceMul, Nat.reduceLeDiff, Nat.lt_irrefl, Int.reduceToNat, Int.reduceLT, Int.reduceLE, cF4]; rfl) rfl ?_
        refine p_end (by simp (disch := (apply Apart.mk; decide)) only [go_sem, Nat.reduceAdd, Nat.reduceLT, Nat.reduceMul, Nat.reduceLeDiff, Nat.lt_irrefl, Int.reduceToNat, Int.reduceLT, Int.reduceLE, cF4]) ?_
        obtain rfl : _ = v := hr
        exact w_k (To.cut hwf (Nat.le_refl _) rfl (by simp (disch := (apply Apart.mk; decide)) only [go_sem, Nat.reduceAdd, Nat.reduceLT, Nat.reduceMul, Nat.reduceLeDiff, Nat.lt_irrefl, Int.reduceToNat, Int.reduceLT, Int.reduceLE, cF2, cF4]))
      · obtain ⟨n, nF5, eF6, gF7, hr⟩ := hr.idx
        obtain ⟨b, nF8, eF9, gF10, hr⟩ := hr.idx
        refine p_run (l := [3, 4, 5, 6, 7, 8, 9, 10, 11, 12, 13]) (pend' := [13, 12, 11, 10, 9, 8, 7, 6, 5, 4, 3, 2, 1, 0]) (by simp (disch := (apply Apart.mk; decide)) only [go_sem, Nat.reduceAdd, Nat.reduceLT, Nat.reduceMul, Nat.reduceLeDiff, Nat.lt_irrefl, Int.reduceToNat, Int.reduceLT, Int.reduceLE, cF4, nF5, eF6, gF7, nF8, eF9, gF10]; rfl) rfl ?_
        refine p_end (by simp (disch := (apply Apart.mk; decide)) only [go_sem, Nat.reduceAdd, Nat.reduceLT, Nat.reduceMul, Nat.reduceLeDiff, Nat.lt_irrefl, Int.reduceToNat, Int.reduceLT, Int.reduceLE, cF4, nF5, eF6, gF7, nF8, eF9, gF10]) ?_
        obtain rfl : _ = v := hr
        exact w_k (To.cut hwf (Nat.le_refl _) rfl (by simp (disch := (apply Apart.mk; decide)) only [go_sem, Nat.reduceAdd, Nat.reduceLT, Nat.reduceMul, Nat.reduceLeDiff, Nat.lt_irrefl, Int.reduceToNat, Int.reduceLT, Int.reduceLE, cF2, cF4]))
    refine w_condH (by simp (disch := (apply Apart.mk; decide)) only [go_sem, Nat.reduceAdd, Nat.reduceLT, Nat.reduceMul, Nat.reduceLeDiff, Nat.lt_irrefl, Int.reduceToNat, Int.reduceLT, Int.reduceLE, cF2]) hr (fun cF12 hr => ?_) (fun cF12 hr => ?_)
    · refine w_seq ?_
      refine w_region rfl (by simp (disch := (apply Apart.mk; decide)) only [go_sem, Nat.reduceAdd, Nat.reduceLT, Nat.reduceMul, Nat.reduceLeDiff, Nat.lt_irrefl, Int.reduceToNat, Int.reduceLT, Int.reduceLE, cF2, cF12]; rfl) ?_
      refine (w_n ?_)
      refine w_ret ?_
      obtain rfl := hD _ hr
      exact (w_tr (w_endR (To.cut (os' := []) (sl := [(4, .cv (.val (.int .i64 (0 : Int)))), (5, .cv (.val (.int .i64 (4 : Int))))]) hwf (Nat.le_refl _) rfl (by simp (disch := (apply Apart.mk; decide)) only [go_sem, Nat.reduceAdd, Nat.reduceLT, Nat.reduceMul, Nat.reduceLeDiff, Nat.lt_irrefl, Int.reduceToNat, Int.reduceLT, Int.reduceLE, cF2, cF12])) (by simp (disch := (apply Apart.mk; decide)) only [go_sem, Nat.reduceAdd, Nat.reduceLT, Nat.reduceMul, Nat.reduceLeDiff, Nat.lt_irrefl, Int.reduceToNat, Int.reduceLT, Int.reduceLE, Try.results36, results_data CT_gives36, resCell, resVal.eq_2, loadOp_sv, cF2, cF12]) ⟨rfl, on_nil hwf⟩))
    · refine w_skip ?_
      refine (w_n ?_)
      refine w_seq ?_
      refine w_region rfl (by simp (disch := (apply Apart.mk; decide)) only [go_sem, Nat.reduceAdd, Nat.reduceLT, Nat.reduceMul, Nat.reduceLeDiff, Nat.lt_irrefl, Int.reduceToNat, Int.reduceLT, Int.reduceLE, cF2, cF12]; rfl) ?_
      refine (w_n ?_)
      refine w_seq ?_
      refine w_seq ?_
      refine w_region rfl (by simp (disch := (apply Apart.mk; decide)) only [go_sem, Nat.reduceAdd, Nat.reduceLT, Nat.reduceMul, Nat.reduceLeDiff, Nat.lt_irrefl, Int.reduceToNat, Int.reduceLT, Int.reduceLE, cF2, cF12]; rfl) ?_
      refine (w_n ?_)
      refine w_K (D := D) (fun xX : Int => ⟨[(10, .cv (.val (.int .i64 xX)))], h.on []⟩) (fun xX : Int => dawg_Number.k1 xX) (fun xX s' hr ht => ?_) ?_
      · obtain ⟨n1, rfl⟩ : ∃ z, z = xX := ⟨xX, rfl⟩
        dsimp only [dawg_Number.k1] at hr ht
        refine (w_nT ht ?_)
        refine w_seq ?_
        refine w_region rfl (by simp (disch := (apply Apart.mk; decide)) only [go_sem, Nat.reduceAdd, Nat.reduceLT, Nat.reduceMul, Nat.reduceLeDiff, Nat.lt_irrefl, Int.reduceToNat, Int.reduceLT, Int.reduceLE, cF2, cF12]; rfl) ?_
        refine (w_n ?_)
        refine w_ret ?_
        obtain rfl := hD _ hr
        exact (w_endR (To.cut (os' := []) (sl := [(4, .cv (.val (.int .i64 (mn n1 (1099511627776 : Int))))), (5, .cv (.val (.int .i64 (0 : Int))))]) hwf (Nat.le_refl _) rfl (by simp (disch := (apply Apart.mk; decide)) only [go_sem, Nat.reduceAdd, Nat.reduceLT, Nat.reduceMul, Nat.reduceLeDiff, Nat.lt_irrefl, Int.reduceToNat, Int.reduceLT, Int.reduceLE, cF2, cF12])) (by simp (disch := (apply Apart.mk; decide)) only [go_sem, Nat.reduceAdd, Nat.reduceLT, Nat.reduceMul, Nat.reduceLeDiff, Nat.lt_irrefl, Int.reduceToNat, Int.reduceLT, Int.reduceLE, Try.results36, results_data CT_gives36, resCell, resVal.eq_2, loadOp_sv, cF2, cF12]) ⟨rfl, on_nil hwf⟩)
      · refine w_block ?_
        refine w_Loop (fun xX : (Int × Int) => ⟨[(1, .cv (.val (.str (bs word)))), (2, .cv (.val (.ptr (some (h.n + 0, 0))))), (6, .cv (.val (.sl (List.map eI r.1)))), (8, .cv (.val (.sl (List.map eI r1.1)))), (10, .cv (.val (.int .i64 xX.1))), (43, .cv (.val (.int .i64 (word.length : Int)))), (44, .cv (.val (.int .i64 xX.2)))], h.on [some (.cells [.val (.sl (List.map eB g.Final)), .val (.sl (List.map (eL eEdge) g.Edges))])]⟩) hr (To.cut hwf (Nat.le_refl _) rfl (by simp (disch := (apply Apart.mk; decide)) only [go_sem, Nat.reduceAdd, Nat.reduceLT, Nat.reduceMul, Nat.reduceLeDiff, Nat.lt_irrefl, Int.reduceToNat, Int.reduceLT, Int.reduceLE, cF2, cF12])) (fun W1 xX hr => ?_)
        obtain ⟨n2, v1⟩ := xX
        dsimp only [dawg_Number.b1] at hr
        refine w_seq ?_
        refine w_region rfl (by simp (disch := (apply Apart.mk; decide)) only [go_sem, Nat.reduceAdd, Nat.reduceLT, Nat.reduceMul, Nat.reduceLeDiff, Nat.lt_irrefl, Int.reduceToNat, Int.reduceLT, Int.reduceLE, cF2, cF12]; rfl) ?_
        refine (w_n ?_)
        refine w_seq ?_
        refine w_condH (by simp (disch := (apply Apart.mk; decide)) only [go_sem, Nat.reduceAdd, Nat.reduceLT, Nat.reduceMul, Nat.reduceLeDiff, Nat.lt_irrefl, Int.reduceToNat, Int.reduceLT, Int.reduceLE, cF2, cF12]) hr (fun cF13 hr => ?_) (fun cF13 hr => ?_)
        · refine w_skip ?_
          refine (w_n ?_)
          refine w_seq ?_
          refine w_K (D := (Aft W1 D)) (fun xX : Int => ⟨[(1, .cv (.val (.str (bs word)))), (2, .cv (.val (.ptr (some (h.n + 0, 0))))), (6, .cv (.val (.sl (List.map eI r.1)))), (8, .cv (.val (.sl (List.map eI r1.1)))), (10, .cv (.val (.int .i64 xX))), (43, .cv (.val (.int .i64 (word.length : Int)))), (44, .cv (.val (.int .i64 v1)))], h.on [some (.cells [.val (.sl (List.map eB g.Final)), .val (.sl (List.map (eL eEdge) g.Edges))])]⟩) (fun xX : Int => dawg_Number.k2 v1 xX) (fun xX s' hr ht => ?_) ?_
          · obtain ⟨n3, rfl⟩ : ∃ z, z = xX := ⟨xX, rfl⟩
            dsimp only [dawg_Number.k2] at hr ht
            refine (w_nT ht ?_)
            refine w_region rfl (by simp (disch := (apply Apart.mk; decide)) only [go_sem, Nat.reduceAdd, Nat.reduceLT, Nat.reduceMul, Nat.reduceLeDiff, Nat.lt_irrefl, Int.reduceToNat, Int.reduceLT, Int.reduceLE, cF2, cF12, cF13]; rfl) ?_
            exact (w_k ⟨(n3, (IntKind.i64.wrap (v1 + (1 : Int)))), hr, (To.cut hwf (Nat.le_refl _) rfl (by simp (disch := (apply Apart.mk; decide)) only [go_sem, Nat.reduceAdd, Nat.reduceLT, Nat.reduceMul, Nat.reduceLeDiff, Nat.lt_irrefl, Int.reduceToNat, Int.reduceLT, Int.reduceLE, cF2, cF12, cF13]))⟩)
          · refine w_block ?_
            refine w_seq ?_
            refine w_region rfl (by simp (disch := (apply Apart.mk; decide)) only [go_sem, Nat.reduceAdd, Nat.reduceLT, Nat.reduceMul, Nat.reduceLeDiff, Nat.lt_irrefl, Int.reduceToNat, Int.reduceLT, Int.reduceLE, cF2, cF12, cF13]; rfl) ?_
            refine (w_n ?_)
            refine w_seq ?_
            refine w_seq ?_
            refine w_drawn [0, 1, 2, 3, 4, 5, 6, 7] (by rfl) ?_
            obtain ⟨n4, nF14, eF15, gF16, hr⟩ := hr.idx
            obtain ⟨b1, nF17, eF18, gF19, hr⟩ := hr.idx
            refine p_run (l := [0, 1, 2, 3, 4, 5, 6, 7]) (pend' := [7, 6, 5, 4, 3, 2, 1, 0]) (by simp (disch := (apply Apart.mk; decide)) only [go_sem, Nat.reduceAdd, Nat.reduceLT, Nat.reduceMul, Nat.reduceLeDiff, Nat.lt_irrefl, Int.reduceToNat, Int.reduceLT, Int.reduceLE, nF14, eF15, gF16, nF17, eF18, gF19]; rfl) rfl ?_
            refine p_end (by simp (disch := (apply Apart.mk; decide)) only [go_sem, Nat.reduceAdd, Nat.reduceLT, Nat.reduceMul, Nat.reduceLeDiff, Nat.lt_irrefl, Int.reduceToNat, Int.reduceLT, Int.reduceLE, nF14, eF15, gF16, nF17, eF18, gF19]) ?_
            refine (w_n ?_)
            refine w_K (D := (Aft W1 D)) (fun xX : Int => ⟨[(1, .cv (.val (.str (bs word)))), (2, .cv (.val (.ptr (some (h.n + 0, 0))))), (6, .cv (.val (.sl (List.map eI r.1)))), (8, .cv (.val (.sl (List.map eI r1.1)))), (10, .cv (.val (.int .i64 xX))), (11, .cv (.val (.int .i64 v1))), (43, .cv (.val (.int .i64 (word.length : Int)))), (44, .cv (.val (.int .i64 v1)))], h.on [some (.cells [.val (.sl (List.map eB g.Final)), .val (.sl (List.map (eL eEdge) g.Edges))])]⟩) (fun xX : Int => dawg_Number.k3 g word r v1 n4 xX) (fun xX s' hr ht => ?_) ?_
            · obtain ⟨n5, rfl⟩ : ∃ z, z = xX := ⟨xX, rfl⟩
              dsimp only [dawg_Number.k3] at hr ht
              refine (w_nT ht ?_)
              refine w_seq ?_
              refine w_drawn [0, 1, 2, 3, 4, 5, 6, 7, 8, 9] (by rfl) ?_
              obtain ⟨xs, nF20, eF21, gF22, hr⟩ := hr.idx
              refine p_run (l := [0, 1, 2, 3, 4, 5, 6, 7, 8, 9]) (pend' := [9, 8, 7, 6, 5, 4, 3, 2, 1, 0]) (by simp (disch := (apply Apart.mk; decide)) only [go_sem, Nat.reduceAdd, Nat.reduceLT, Nat.reduceMul, Nat.reduceLeDiff, Nat.lt_irrefl, Int.reduceToNat, Int.reduceLT, Int.reduceLE, nF14, eF15, gF16, nF20, eF21, gF22]; rfl) rfl ?_
              refine p_end (by simp (disch := (apply Apart.mk; decide)) only [go_sem, Nat.reduceAdd, Nat.reduceLT, Nat.reduceMul, Nat.reduceLeDiff, Nat.lt_irrefl, Int.reduceToNat, Int.reduceLT, Int.reduceLE, nF14, eF15, gF16, nF20, eF21, gF22]) ?_
              refine (w_n ?_)
              refine w_block ?_
              refine w_Loop (fun xX : (Int × Int) => ⟨[(1, .cv (.val (.str (bs word)))), (2, .cv (.val (.ptr (some (h.n + 0, 0))))), (6, .cv (.val (.sl (List.map eI r.1)))), (8, .cv (.val (.sl (List.map eI r1.1)))), (10, .cv (.val (.int .i64 xX.1))), (11, .cv (.val (.int .i64 v1))), (43, .cv (.val (.int .i64 (word.length : Int)))), (44, .cv (.val (.int .i64 v1))), (64, .cv (.val (.sl (List.map eEdge xs)))), (65, .cv (.val (.int .i64 (xs.length : Int)))), (66, .cv (.val (.int .i64 xX.2)))], h.on [some (.cells [.val (.sl (List.map eB g.Final)), .val (.sl (List.map (eL eEdge) g.Edges))])]⟩) hr (To.cut hwf (Nat.le_refl _) rfl (by simp (disch := (apply Apart.mk; decide)) only [go_sem, Nat.reduceAdd, Nat.reduceLT, Nat.reduceMul, Nat.reduceLeDiff, Nat.lt_irrefl, Int.reduceToNat, Int.reduceLT, Int.reduceLE, cF2, cF12, cF13])) (fun W2 xX hr => ?_)
              obtain ⟨n6, v2⟩ := xX
              dsimp only [dawg_Number.b2] at hr
              refine w_seq ?_
              refine w_region rfl (by simp (disch := (apply Apart.mk; decide)) only [go_sem, Nat.reduceAdd, Nat.reduceLT, Nat.reduceMul, Nat.reduceLeDiff, Nat.lt_irrefl, Int.reduceToNat, Int.reduceLT, Int.reduceLE, cF2, cF12, cF13]; rfl) ?_
              refine (w_n ?_)
              refine w_seq ?_
              refine w_condH (by simp (disch := (apply Apart.mk; decide)) only [go_sem, Nat.reduceAdd, Nat.reduceLT, Nat.reduceMul, Nat.reduceLeDiff, Nat.lt_irrefl, Int.reduceToNat, Int.reduceLT, Int.reduceLE, cF2, cF12, cF13]) hr (fun cF23 hr => ?_) (fun cF23 hr => ?_)
              · refine w_skip ?_
                refine (w_n ?_)
                refine w_seq ?_
                refine w_K (D := (Aft W2 (Aft W1 D))) (fun xX : Int => ⟨[(1, .cv (.val (.str (bs word)))), (2, .cv (.val (.ptr (some (h.n + 0, 0))))), (6, .cv (.val (.sl (List.map eI r.1)))), (8, .cv (.val (.sl (List.map eI r1.1)))), (10, .cv (.val (.int .i64 xX))), (11, .cv (.val (.int .i64 v1))), (43, .cv (.val (.int .i64 (word.length : Int)))), (44, .cv (.val (.int .i64 v1))), (64, .cv (.val (.sl (List.map eEdge xs)))), (65, .cv (.val (.int .i64 (xs.length : Int)))), (66, .cv (.val (.int .i64 v2)))], h.on [some (.cells [.val (.sl (List.map eB g.Final)), .val (.sl (List.map (eL eEdge) g.Edges))])]⟩) (fun xX : Int => dawg_Number.k4 v2 xX) (fun xX s' hr ht => ?_) ?_
                · obtain ⟨n7, rfl⟩ : ∃ z, z = xX := ⟨xX, rfl⟩
                  dsimp only [dawg_Number.k4] at hr ht
                  refine (w_nT ht ?_)
                  refine w_region rfl (by simp (disch := (apply Apart.mk; decide)) only [go_sem, Nat.reduceAdd, Nat.reduceLT, Nat.reduceMul, Nat.reduceLeDiff, Nat.lt_irrefl, Int.reduceToNat, Int.reduceLT, Int.reduceLE, cF2, cF12, cF13, cF23]; rfl) ?_
                  exact (w_k ⟨(n7, (IntKind.i64.wrap (v2 + (1 : Int)))), hr, (To.cut hwf (Nat.le_refl _) rfl (by simp (disch := (apply Apart.mk; decide)) only [go_sem, Nat.reduceAdd, Nat.reduceLT, Nat.reduceMul, Nat.reduceLeDiff, Nat.lt_irrefl, Int.reduceToNat, Int.reduceLT, Int.reduceLE, cF2, cF12, cF13, cF23]))⟩)
                · refine w_block ?_
                  refine w_seq ?_
                  obtain ⟨x, nF24, eF25, gF26, hr⟩ := hr.idx
                  refine w_region rfl (by simp (disch := (apply Apart.mk; decide)) only [go_sem, Nat.reduceAdd, Nat.reduceLT, Nat.reduceMul, Nat.reduceLeDiff, Nat.lt_irrefl, Int.reduceToNat, Int.reduceLT, Int.reduceLE, nF24, eF25, gF26, cF2, cF12, cF13, cF23]; rfl) ?_
                  refine (w_n ?_)
                  refine w_seq ?_
                  refine w_drawn [0, 1, 2, 3, 4, 5] (by rfl) ?_
                  obtain ⟨c, nF27, eF28, gF29, hr⟩ := hr.idx
                  refine p_run (l := [0, 1, 2, 3, 4, 5]) (pend' := [5, 4, 3, 2, 1, 0]) (by simp (disch := (apply Apart.mk; decide)) only [go_sem, Nat.reduceAdd, Nat.reduceLT, Nat.reduceMul, Nat.reduceLeDiff, Nat.lt_irrefl, Int.reduceToNat, Int.reduceLT, Int.reduceLE, nF27, eF28, gF29]; rfl) rfl ?_
                  refine p_end (by simp (disch := (apply Apart.mk; decide)) only [go_sem, Nat.reduceAdd, Nat.reduceLT, Nat.reduceMul, Nat.reduceLeDiff, Nat.lt_irrefl, Int.reduceToNat, Int.reduceLT, Int.reduceLE, nF27, eF28, gF29]) ?_
                  refine (w_n ?_)
                  refine w_condH (by simp (disch := (apply Apart.mk; decide)) only [go_sem, Nat.reduceAdd, Nat.reduceLT, Nat.reduceMul, Nat.reduceLeDiff, Nat.lt_irrefl, Int.reduceToNat, Int.reduceLT, Int.reduceLE, cF2, cF12, cF13, cF23]) hr (fun cF30 hr => ?_) (fun cF30 hr => ?_)
                  · obtain ⟨n8, nF31, eF32, gF33, hr⟩ := hr.idx
                    refine w_region rfl (by simp (disch := (apply Apart.mk; decide)) only [go_sem, Nat.reduceAdd, Nat.reduceLT, Nat.reduceMul, Nat.reduceLeDiff, Nat.lt_irrefl, Int.reduceToNat, Int.reduceLT, Int.reduceLE, nF31, eF32, gF33, cF2, cF12, cF13, cF23, cF30]; rfl) ?_
                    exact (w_bn (w_k ⟨(IntKind.i64.wrap (n6 + n8)), hr, (To.cut hwf (Nat.le_refl _) rfl (by simp (disch := (apply Apart.mk; decide)) only [go_sem, Nat.reduceAdd, Nat.reduceLT, Nat.reduceMul, Nat.reduceLeDiff, Nat.lt_irrefl, Int.reduceToNat, Int.reduceLT, Int.reduceLE, cF2, cF12, cF13, cF23, cF30]))⟩))
                  · refine w_skip ?_
                    exact (w_bn (w_k ⟨n6, hr, (To.cut hwf (Nat.le_refl _) rfl (by simp (disch := (apply Apart.mk; decide)) only [go_sem, Nat.reduceAdd, Nat.reduceLT, Nat.reduceMul, Nat.reduceLeDiff, Nat.lt_irrefl, Int.reduceToNat, Int.reduceLT, Int.reduceLE, cF2, cF12, cF13, cF23, cF30]))⟩))
              · refine w_exit ?_
                exact (w_te (w_te (w_bx (w_bn (w_k ⟨n6, (hr).map, (To.cut hwf (Nat.le_refl _) rfl (by simp (disch := (apply Apart.mk; decide)) only [go_sem, Nat.reduceAdd, Nat.reduceLT, Nat.reduceMul, Nat.reduceLeDiff, Nat.lt_irrefl, Int.reduceToNat, Int.reduceLT, Int.reduceLE, cF2, cF12, cF13, cF23]))⟩)))))
            · refine w_condH (by simp (disch := (apply Apart.mk; decide)) only [go_sem, Nat.reduceAdd, Nat.reduceLT, Nat.reduceMul, Nat.reduceLeDiff, Nat.lt_irrefl, Int.reduceToNat, Int.reduceLT, Int.reduceLE, cF2, cF12, cF13]) hr (fun cF34 hr => ?_) (fun cF34 hr => ?_)
              · refine w_region rfl (by simp (disch := (apply Apart.mk; decide)) only [go_sem, Nat.reduceAdd, Nat.reduceLT, Nat.reduceMul, Nat.reduceLeDiff, Nat.lt_irrefl, Int.reduceToNat, Int.reduceLT, Int.reduceLE, cF2, cF12, cF13, cF34]; rfl) ?_
                exact (w_k ⟨(IntKind.i64.wrap (n2 + (1 : Int))), hr, (To.cut hwf (Nat.le_refl _) rfl (by simp (disch := (apply Apart.mk; decide)) only [go_sem, Nat.reduceAdd, Nat.reduceLT, Nat.reduceMul, Nat.reduceLeDiff, Nat.lt_irrefl, Int.reduceToNat, Int.reduceLT, Int.reduceLE, cF2, cF12, cF13, cF34]))⟩)
              · refine w_skip ?_
                exact (w_k ⟨n2, hr, (To.cut hwf (Nat.le_refl _) rfl (by simp (disch := (apply Apart.mk; decide)) only [go_sem, Nat.reduceAdd, Nat.reduceLT, Nat.reduceMul, Nat.reduceLeDiff, Nat.lt_irrefl, Int.reduceToNat, Int.reduceLT, Int.reduceLE, cF2, cF12, cF13, cF34]))⟩)
        · refine w_exit ?_
          exact (w_te (w_te (w_bx (w_k ⟨n2, (hr).map, (To.cut hwf (Nat.le_refl _) rfl (by simp (disch := (apply Apart.mk; decide)) only [go_sem, Nat.reduceAdd, Nat.reduceLT, Nat.reduceMul, Nat.reduceLeDiff, Nat.lt_irrefl, Int.reduceToNat, Int.reduceLT, Int.reduceLE, cF2, cF12, cF13]))⟩))))
end Go.Val

/- part GW32 -/
/- (*scansion/darray.Array).Number runs as it is read off. -/
namespace Go.Val
set_option linter.unusedVariables false
set_option linter.unusedSimpArgs false
set_option maxRecDepth 20000
open Go.Proofs
theorem darray_Array_Number_runs (a_ : Tdarray_Array) (word : List UInt8) (l0 : Nat) {h : Heap} (ha0 : h.at_ l0 = some (.cells [.val (.sl (List.map eB a_.graph.Final)), .val (.sl (List.map (eL eEdge) a_.graph.Edges)), .row 3 (List.map eI a_.base), .row 91 (List.map edarray_cell a_.cells), .val (.sl (List.map eI a_.count))])) {a : (Int × Bool)} (e : darray_Array_Number a_ word = some a) :
    Runs CT 32 [.cv (.val (.ptr (some (l0, 0)))), .cv (.val (.sl (List.map eU word)))] h fun o h' => o = [.cv (.val (.int .i64 a.1)), .cv (.val (.bool a.2))] ∧ h' = h := by
  refine Runs.start Try.f32 _ Try.func32 rfl (by rw [Try.ntmps32]; simp) (by rfl) (by rfl) (fun hwf hu => ?_)
  have hl0 := (hwf _ _ ha0).1
  obtain ⟨D, hD, hr⟩ : ∃ D : (Int × Bool) → Prop, (∀ z, D z → z = a) ∧ Holds (darray_Array_Number a_ word) D := ⟨fun z => z = a, fun _ h => h, Holds.intro e rfl⟩
  dsimp only [darray_Array_Number] at hr
  change wpCode _ _ _ _ _ ⟨[(0, .cv (.val (.ptr (some (l0, 0))))), (1, .cv (.val (.sl (List.map eU word))))], h.on []⟩
  refine w_seq ?_
  refine w_region rfl (by simp (disch := (apply Apart.mk; decide)) only [go_sem, Nat.reduceAdd, Nat.reduceLT, Nat.reduceMul, Nat.reduceLeDiff, Nat.lt_irrefl, Int.reduceToNat, Int.reduceLT, Int.reduceLE, ha0, on_atB hl0, lt_add hl0, lt_at hl0]; rfl) ?_
  refine (w_n ?_)
  refine w_seq ?_
  refine w_drawn [0, 1, 2, 3, 4, 5, 6, 7, 8, 9, 10, 11] (by rfl) ?_
  refine p_run (l := [0, 1, 2, 3, 4, 5]) (pend' := [5, 4, 3, 2, 1, 0]) (by simp (disch := (apply Apart.mk; decide)) only [go_sem, Nat.reduceAdd, Nat.reduceLT, Nat.reduceMul, Nat.reduceLeDiff, Nat.lt_irrefl, Int.reduceToNat, Int.reduceLT, Int.reduceLE, ha0, on_atB hl0, lt_add hl0, lt_at hl0]; rfl) rfl ?_
  obtain ⟨r, eF1, hr⟩ := hr.bind
  refine p_call (out := ?o_eF1) (hp := ?p_eF1) (pend' := []) rfl (by simp (disch := (apply Apart.mk; decide)) only [go_sem, Nat.reduceAdd, Nat.reduceLT, Nat.reduceMul, Nat.reduceLeDiff, Nat.lt_irrefl, Int.reduceToNat, Int.reduceLT, Int.reduceLE, ha0, on_atB hl0, lt_add hl0, lt_at hl0, Option.getD_some]) rfl (by simp (disch := (apply Apart.mk; decide)) only [go_sem, Nat.reduceAdd, Nat.reduceLT, Nat.reduceMul, Nat.reduceLeDiff, Nat.lt_irrefl, Int.reduceToNat, Int.reduceLT, Int.reduceLE, ha0, on_atB hl0, lt_add hl0, lt_at hl0, Option.getD_some]; rfl) (by simp (disch := (apply Apart.mk; decide)) only [go_sem, Nat.reduceAdd, Nat.reduceLT, Nat.reduceMul, Nat.reduceLeDiff, Nat.lt_irrefl, Int.reduceToNat, Int.reduceLT, Int.reduceLE, ha0, on_atB hl0, lt_add hl0, lt_at hl0, Option.getD_some]; rfl) (by simp (disch := (apply Apart.mk; decide)) only [go_sem, Nat.reduceAdd, Nat.reduceLT, Nat.reduceMul, Nat.reduceLeDiff, Nat.lt_irrefl, Int.reduceToNat, Int.reduceLT, Int.reduceLE, ha0, on_atB hl0, lt_add hl0, lt_at hl0, Option.getD_some]; rfl) (by rfl) ?c_eF1 ?d_eF1 ?_
  case c_eF1 => exact dawg_Number_runs a_.graph word eF1
  case d_eF1 => rfl
  refine p_run (l := [7, 8, 9]) (pend' := [9, 8, 7]) (by simp (disch := (apply Apart.mk; decide)) only [go_sem, Nat.reduceAdd, Nat.reduceLT, Nat.reduceMul, Nat.reduceLeDiff, Nat.lt_irrefl, Int.reduceToNat, Int.reduceLT, Int.reduceLE, ha0, on_atB hl0, lt_add hl0, lt_at hl0]; rfl) rfl ?_
  refine p_op (pend' := [9]) rfl (by simp (disch := (apply Apart.mk; decide)) only [go_sem, Nat.reduceAdd, Nat.reduceLT, Nat.reduceMul, Nat.reduceLeDiff, Nat.lt_irrefl, Int.reduceToNat, Int.reduceLT, Int.reduceLE, ha0, on_atB hl0, lt_add hl0, lt_at hl0]) (by simp (disch := (apply Apart.mk; decide)) only [go_sem, Nat.reduceAdd, Nat.reduceLT, Nat.reduceMul, Nat.reduceLeDiff, Nat.lt_irrefl, Int.reduceToNat, Int.reduceLT, Int.reduceLE, ha0, on_atB hl0, lt_add hl0, lt_at hl0]; rfl) (by rfl) ?_
  refine p_op (pend' := []) rfl (by simp (disch := (apply Apart.mk; decide)) only [go_sem, Nat.reduceAdd, Nat.reduceLT, Nat.reduceMul, Nat.reduceLeDiff, Nat.lt_irrefl, Int.reduceToNat, Int.reduceLT, Int.reduceLE, ha0, on_atB hl0, lt_add hl0, lt_at hl0]) (by simp (disch := (apply Apart.mk; decide)) only [go_sem, Nat.reduceAdd, Nat.reduceLT, Nat.reduceMul, Nat.reduceLeDiff, Nat.lt_irrefl, Int.reduceToNat, Int.reduceLT, Int.reduceLE, ha0, on_atB hl0, lt_add hl0, lt_at hl0]; rfl) (by rfl) ?_
  refine p_end (by simp (disch := (apply Apart.mk; decide)) only [go_sem, Nat.reduceAdd, Nat.reduceLT, Nat.reduceMul, Nat.reduceLeDiff, Nat.lt_irrefl, Int.reduceToNat, Int.reduceLT, Int.reduceLE, ha0, on_atB hl0, lt_add hl0, lt_at hl0]) ?_
  refine (w_n ?_)
  refine w_seq ?_
  refine w_region rfl (by simp (disch := (apply Apart.mk; decide)) only [go_sem, Nat.reduceAdd, Nat.reduceLT, Nat.reduceMul, Nat.reduceLeDiff, Nat.lt_irrefl, Int.reduceToNat, Int.reduceLT, Int.reduceLE, ha0, on_atB hl0, lt_add hl0, lt_at hl0]; rfl) ?_
  refine (w_n ?_)
  refine w_ret ?_
  obtain rfl := hD _ hr
  exact (w_endR (To.cut (os' := []) (sl := [(4, .cv (.val (.int .i64 r.1))), (5, .cv (.val (.bool (r.2 == (0 : Int)))))]) hwf (Nat.le_refl _) (by first | rfl | (simp (disch := (apply Apart.mk; decide)) only [go_sem, Nat.reduceAdd, Nat.reduceLT, Nat.reduceMul, Nat.reduceLeDiff, Nat.lt_irrefl, Int.reduceToNat, Int.reduceLT, Int.reduceLE, ha0, on_atB hl0, lt_add hl0, lt_at hl0]; rfl)) (by simp (disch := (apply Apart.mk; decide)) only [go_sem, Nat.reduceAdd, Nat.reduceLT, Nat.reduceMul, Nat.reduceLeDiff, Nat.lt_irrefl, Int.reduceToNat, Int.reduceLT, Int.reduceLE, ha0, on_atB hl0, lt_add hl0, lt_at hl0])) (by simp (disch := (apply Apart.mk; decide)) only [go_sem, Nat.reduceAdd, Nat.reduceLT, Nat.reduceMul, Nat.reduceLeDiff, Nat.lt_irrefl, Int.reduceToNat, Int.reduceLT, Int.reduceLE, ha0, on_atB hl0, lt_add hl0, lt_at hl0, Try.results32, results_data CT_gives32, resCell, resVal.eq_2, loadOp_sv]) ⟨rfl, on_nil hwf⟩)
end Go.Val

/- part GW34 -/
/- scansion/scansionref01.SameInts runs as it is read off. -/
namespace Go.Val
set_option linter.unusedVariables false
set_option linter.unusedSimpArgs false
set_option maxRecDepth 20000
open Go.Proofs
theorem scansionref01_SameInts_runs (a_ : List Int) (b : List Int) {h : Heap} {a : Bool} (e : scansionref01_SameInts a_ b = some a) :
    Runs CT 34 [.cv (.val (.sl (List.map eI a_))), .cv (.val (.sl (List.map eI b)))] h fun o h' => o = [.cv (.val (.bool a))] ∧ h' = h := by
  refine Runs.start Try.f34 _ Try.func34 rfl (by rw [Try.ntmps34]; simp) (by rfl) (by rfl) (fun hwf hu => ?_)
  obtain ⟨D, hD, hr⟩ : ∃ D : Bool → Prop, (∀ z, D z → z = a) ∧ Holds (scansionref01_SameInts a_ b) D := ⟨fun z => z = a, fun _ h => h, Holds.intro e rfl⟩
  dsimp only [scansionref01_SameInts] at hr
  change wpCode _ _ _ _ _ ⟨[(0, .cv (.val (.sl (List.map eI a_)))), (1, .cv (.val (.sl (List.map eI b))))], h.on []⟩
  refine w_seq ?_
  refine w_region rfl (by simp (disch := (apply Apart.mk; decide)) only [go_sem, Nat.reduceAdd, Nat.reduceLT, Nat.reduceMul, Nat.reduceLeDiff, Nat.lt_irrefl, Int.reduceToNat, Int.reduceLT, Int.reduceLE]; rfl) ?_
  refine (w_n ?_)
  refine w_seq ?_
  refine w_seq ?_
  refine w_region rfl (by simp (disch := (apply Apart.mk; decide)) only [go_sem, Nat.reduceAdd, Nat.reduceLT, Nat.reduceMul, Nat.reduceLeDiff, Nat.lt_irrefl, Int.reduceToNat, Int.reduceLT, Int.reduceLE]; rfl) ?_
  refine (w_n ?_)
  refine w_condH (by simp (disch := (apply Apart.mk; decide)) only [go_sem, Nat.reduceAdd, Nat.reduceLT, Nat.reduceMul, Nat.reduceLeDiff, Nat.lt_irrefl, Int.reduceToNat, Int.reduceLT, Int.reduceLE]) hr (fun cF1 hr => ?_) (fun cF1 hr => ?_)
  · refine w_seq ?_
    refine w_region rfl (by simp (disch := (apply Apart.mk; decide)) only [go_sem, Nat.reduceAdd, Nat.reduceLT, Nat.reduceMul, Nat.reduceLeDiff, Nat.lt_irrefl, Int.reduceToNat, Int.reduceLT, Int.reduceLE, cF1]; rfl) ?_
    refine (w_n ?_)
    refine w_ret ?_
    obtain rfl := hD _ hr
    exact (w_tr (w_endR (To.cut (os' := []) (sl := [(4, .cv (.val (.bool false)))]) hwf (Nat.le_refl _) rfl (by simp (disch := (apply Apart.mk; decide)) only [go_sem, Nat.reduceAdd, Nat.reduceLT, Nat.reduceMul, Nat.reduceLeDiff, Nat.lt_irrefl, Int.reduceToNat, Int.reduceLT, Int.reduceLE, cF1])) (by simp (disch := (apply Apart.mk; decide)) only [go_sem, Nat.reduceAdd, Nat.reduceLT, Nat.reduceMul, Nat.reduceLeDiff, Nat.lt_irrefl, Int.reduceToNat, Int.reduceLT, Int.reduceLE, Try.results34, results_data CT_gives34, resCell, resVal.eq_2, loadOp_sv, cF1]) ⟨rfl, on_nil hwf⟩))
  · refine w_skip ?_
    refine (w_n ?_)
    refine w_seq ?_
    refine w_seq ?_
    refine w_region rfl (by simp (disch := (apply Apart.mk; decide)) only [go_sem, Nat.reduceAdd, Nat.reduceLT, Nat.reduceMul, Nat.reduceLeDiff, Nat.lt_irrefl, Int.reduceToNat, Int.reduceLT, Int.reduceLE, cF1]; rfl) ?_
    refine (w_n ?_)
    refine w_K (D := D) (fun xX : Unit => ⟨[], h.on []⟩) (fun xX : Unit => scansionref01_SameInts.k1) (fun xX s' hr ht => ?_) ?_
    · dsimp only [scansionref01_SameInts.k1] at hr ht
      refine (w_nT ht ?_)
      refine w_seq ?_
      refine w_region rfl (by simp (disch := (apply Apart.mk; decide)) only [go_sem, Nat.reduceAdd, Nat.reduceLT, Nat.reduceMul, Nat.reduceLeDiff, Nat.lt_irrefl, Int.reduceToNat, Int.reduceLT, Int.reduceLE, cF1]; rfl) ?_
      refine (w_n ?_)
      refine w_ret ?_
      obtain rfl := hD _ hr
      exact (w_endR (To.cut (os' := []) (sl := [(4, .cv (.val (.bool true)))]) hwf (Nat.le_refl _) rfl (by simp (disch := (apply Apart.mk; decide)) only [go_sem, Nat.reduceAdd, Nat.reduceLT, Nat.reduceMul, Nat.reduceLeDiff, Nat.lt_irrefl, Int.reduceToNat, Int.reduceLT, Int.reduceLE, cF1])) (by simp (disch := (apply Apart.mk; decide)) only [go_sem, Nat.reduceAdd, Nat.reduceLT, Nat.reduceMul, Nat.reduceLeDiff, Nat.lt_irrefl, Int.reduceToNat, Int.reduceLT, Int.reduceLE, Try.results34, results_data CT_gives34, resCell, resVal.eq_2, loadOp_sv, cF1]) ⟨rfl, on_nil hwf⟩)
    · refine w_block ?_
      refine w_Loop (fun xX : Int => ⟨[(0, .cv (.val (.sl (List.map eI a_)))), (1, .cv (.val (.sl (List.map eI b)))), (5, .cv (.val (.int .i64 xX)))], h.on []⟩) hr (To.cut hwf (Nat.le_refl _) rfl (by simp (disch := (apply Apart.mk; decide)) only [go_sem, Nat.reduceAdd, Nat.reduceLT, Nat.reduceMul, Nat.reduceLeDiff, Nat.lt_irrefl, Int.reduceToNat, Int.reduceLT, Int.reduceLE, cF1])) (fun W1 xX hr => ?_)
      obtain ⟨i, rfl⟩ : ∃ z, z = xX := ⟨xX, rfl⟩
      dsimp only [scansionref01_SameInts.b1] at hr
      refine w_seq ?_
      refine w_seq ?_
      refine w_region rfl (by simp (disch := (apply Apart.mk; decide)) only [go_sem, Nat.reduceAdd, Nat.reduceLT, Nat.reduceMul, Nat.reduceLeDiff, Nat.lt_irrefl, Int.reduceToNat, Int.reduceLT, Int.reduceLE, cF1]; rfl) ?_
      refine (w_n ?_)
      refine w_condH (by simp (disch := (apply Apart.mk; decide)) only [go_sem, Nat.reduceAdd, Nat.reduceLT, Nat.reduceMul, Nat.reduceLeDiff, Nat.lt_irrefl, Int.reduceToNat, Int.reduceLT, Int.reduceLE, cF1]) hr (fun cF2 hr => ?_) (fun cF2 hr => ?_)
      · refine w_skip ?_
        refine (w_n ?_)
        refine w_seq ?_
        refine w_block ?_
        refine w_seq ?_
        refine w_drawn [0, 1, 2, 3, 4, 5, 6, 7, 8] (by rfl) ?_
        obtain ⟨n, nF3, eF4, gF5, hr⟩ := hr.idx
        obtain ⟨n1, nF6, eF7, gF8, hr⟩ := hr.idx
        refine p_run (l := [0, 1, 2, 3, 4, 5, 6, 7, 8]) (pend' := [8, 7, 6, 5, 4, 3, 2, 1, 0]) (by simp (disch := (apply Apart.mk; decide)) only [go_sem, Nat.reduceAdd, Nat.reduceLT, Nat.reduceMul, Nat.reduceLeDiff, Nat.lt_irrefl, Int.reduceToNat, Int.reduceLT, Int.reduceLE, nF3, eF4, gF5, nF6, eF7, gF8]; rfl) rfl ?_
        refine p_end (by simp (disch := (apply Apart.mk; decide)) only [go_sem, Nat.reduceAdd, Nat.reduceLT, Nat.reduceMul, Nat.reduceLeDiff, Nat.lt_irrefl, Int.reduceToNat, Int.reduceLT, Int.reduceLE, nF3, eF4, gF5, nF6, eF7, gF8]) ?_
        refine (w_n ?_)
        refine w_condH (by simp (disch := (apply Apart.mk; decide)) only [go_sem, Nat.reduceAdd, Nat.reduceLT, Nat.reduceMul, Nat.reduceLeDiff, Nat.lt_irrefl, Int.reduceToNat, Int.reduceLT, Int.reduceLE, cF1, cF2]) hr (fun cF9 hr => ?_) (fun cF9 hr => ?_)
        · refine w_seq ?_
          refine w_region rfl (by simp (disch := (apply Apart.mk; decide)) only [go_sem, Nat.reduceAdd, Nat.reduceLT, Nat.reduceMul, Nat.reduceLeDiff, Nat.lt_irrefl, Int.reduceToNat, Int.reduceLT, Int.reduceLE, cF1, cF2, cF9]; rfl) ?_
          refine (w_n ?_)
          refine w_ret ?_
          obtain rfl := hD _ hr
          exact (w_br (w_tr (w_tr (w_br (w_tr (w_tr (w_endR (To.cut (os' := []) (sl := [(4, .cv (.val (.bool false)))]) hwf (Nat.le_refl _) rfl (by simp (disch := (apply Apart.mk; decide)) only [go_sem, Nat.reduceAdd, Nat.reduceLT, Nat.reduceMul, Nat.reduceLeDiff, Nat.lt_irrefl, Int.reduceToNat, Int.reduceLT, Int.reduceLE, cF1, cF2, cF9])) (by simp (disch := (apply Apart.mk; decide)) only [go_sem, Nat.reduceAdd, Nat.reduceLT, Nat.reduceMul, Nat.reduceLeDiff, Nat.lt_irrefl, Int.reduceToNat, Int.reduceLT, Int.reduceLE, Try.results34, results_data CT_gives34, resCell, resVal.eq_2, loadOp_sv, cF1, cF2, cF9]) ⟨rfl, on_nil hwf⟩)))))))
        · refine w_skip ?_
          refine (w_bn (w_n ?_))
          refine w_region rfl (by simp (disch := (apply Apart.mk; decide)) only [go_sem, Nat.reduceAdd, Nat.reduceLT, Nat.reduceMul, Nat.reduceLeDiff, Nat.lt_irrefl, Int.reduceToNat, Int.reduceLT, Int.reduceLE, cF1, cF2, cF9]; rfl) ?_
          exact (w_k ⟨(IntKind.i64.wrap (i + (1 : Int))), hr, (To.cut hwf (Nat.le_refl _) rfl (by simp (disch := (apply Apart.mk; decide)) only [go_sem, Nat.reduceAdd, Nat.reduceLT, Nat.reduceMul, Nat.reduceLeDiff, Nat.lt_irrefl, Int.reduceToNat, Int.reduceLT, Int.reduceLE, cF1, cF2, cF9]))⟩)
      · refine w_exit ?_
        exact (w_te (w_te (w_bx (w_k ⟨(), (hr).map, (To.cut hwf (Nat.le_refl _) rfl (by simp (disch := (apply Apart.mk; decide)) only [go_sem, Nat.reduceAdd, Nat.reduceLT, Nat.reduceMul, Nat.reduceLeDiff, Nat.lt_irrefl, Int.reduceToNat, Int.reduceLT, Int.reduceLE, cF1, cF2]))⟩))))
end Go.Val

/- part GW50 -/
/- scansion/scansionref17.right runs as it is read off. -/
namespace Go.Val
set_option linter.unusedVariables false
set_option linter.unusedSimpArgs false
set_option maxRecDepth 20000
open Go.Proofs
theorem scansionref17_right_runs (words : List Str) {h : Heap} {a : Bool} (e : scansionref17_right words = some a) :
    Runs CT 50 [.cv (.val (.sl (List.map eS words)))] h fun o h' => o = [.cv (.val (.bool a))] ∧ h' = h := by
  refine Runs.start Try.f50 _ Try.func50 rfl (by rw [Try.ntmps50]; simp) (by rfl) (by rfl) (fun hwf hu => ?_)
  obtain ⟨D, hD, hr⟩ : ∃ D : Bool → Prop, (∀ z, D z → z = a) ∧ Holds (scansionref17_right words) D := ⟨fun z => z = a, fun _ h => h, Holds.intro e rfl⟩
  dsimp only [scansionref17_right] at hr
  change wpCode _ _ _ _ _ ⟨[(0, .cv (.val (.sl (List.map eS words))))], h.on []⟩
  refine w_seq ?_
  refine w_region rfl (by simp (disch := (apply Apart.mk; decide)) only [go_sem, Nat.reduceAdd, Nat.reduceLT, Nat.reduceMul, Nat.reduceLeDiff, Nat.lt_irrefl, Int.reduceToNat, Int.reduceLT, Int.reduceLE]; rfl) ?_
  refine (w_n ?_)
  refine w_seq ?_
  refine w_seq ?_
  refine w_region rfl (by simp (disch := (apply Apart.mk; decide)) only [go_sem, Nat.reduceAdd, Nat.reduceLT, Nat.reduceMul, Nat.reduceLeDiff, Nat.lt_irrefl, Int.reduceToNat, Int.reduceLT, Int.reduceLE]; rfl) ?_
  refine (w_n ?_)
  refine w_condH (by simp (disch := (apply Apart.mk; decide)) only [go_sem, Nat.reduceAdd, Nat.reduceLT, Nat.reduceMul, Nat.reduceLeDiff, Nat.lt_irrefl, Int.reduceToNat, Int.reduceLT, Int.reduceLE]) hr (fun cF1 hr => ?_) (fun cF1 hr => ?_)
  · refine w_seq ?_
    refine w_region rfl (by simp (disch := (apply Apart.mk; decide)) only [go_sem, Nat.reduceAdd, Nat.reduceLT, Nat.reduceMul, Nat.reduceLeDiff, Nat.lt_irrefl, Int.reduceToNat, Int.reduceLT, Int.reduceLE, cF1]; rfl) ?_
    refine (w_n ?_)
    refine w_ret ?_
    obtain rfl := hD _ hr
    exact (w_tr (w_endR (To.cut (os' := []) (sl := [(2, .cv (.val (.bool false)))]) hwf (Nat.le_refl _) rfl (by simp (disch := (apply Apart.mk; decide)) only [go_sem, Nat.reduceAdd, Nat.reduceLT, Nat.reduceMul, Nat.reduceLeDiff, Nat.lt_irrefl, Int.reduceToNat, Int.reduceLT, Int.reduceLE, cF1])) (by simp (disch := (apply Apart.mk; decide)) only [go_sem, Nat.reduceAdd, Nat.reduceLT, Nat.reduceMul, Nat.reduceLeDiff, Nat.lt_irrefl, Int.reduceToNat, Int.reduceLT, Int.reduceLE, Try.results50, results_data CT_gives50, resCell, resVal.eq_2, loadOp_sv, cF1]) ⟨rfl, on_nil hwf⟩))
  · refine w_skip ?_
    refine (w_n ?_)
    refine w_seq ?_
    refine w_seq ?_
    refine w_region rfl (by simp (disch := (apply Apart.mk; decide)) only [go_sem, Nat.reduceAdd, Nat.reduceLT, Nat.reduceMul, Nat.reduceLeDiff, Nat.lt_irrefl, Int.reduceToNat, Int.reduceLT, Int.reduceLE, cF1]; rfl) ?_
    refine (w_n ?_)
    refine w_K (D := D) (fun xX : Unit => ⟨[], h.on []⟩) (fun xX : Unit => scansionref17_right.k1) (fun xX s' hr ht => ?_) ?_
    · dsimp only [scansionref17_right.k1] at hr ht
      refine (w_nT ht ?_)
      refine w_seq ?_
      refine w_region rfl (by simp (disch := (apply Apart.mk; decide)) only [go_sem, Nat.reduceAdd, Nat.reduceLT, Nat.reduceMul, Nat.reduceLeDiff, Nat.lt_irrefl, Int.reduceToNat, Int.reduceLT, Int.reduceLE, cF1]; rfl) ?_
      refine (w_n ?_)
      refine w_ret ?_
      obtain rfl := hD _ hr
      exact (w_endR (To.cut (os' := []) (sl := [(2, .cv (.val (.bool true)))]) hwf (Nat.le_refl _) rfl (by simp (disch := (apply Apart.mk; decide)) only [go_sem, Nat.reduceAdd, Nat.reduceLT, Nat.reduceMul, Nat.reduceLeDiff, Nat.lt_irrefl, Int.reduceToNat, Int.reduceLT, Int.reduceLE, cF1])) (by simp (disch := (apply Apart.mk; decide)) only [go_sem, Nat.reduceAdd, Nat.reduceLT, Nat.reduceMul, Nat.reduceLeDiff, Nat.lt_irrefl, Int.reduceToNat, Int.reduceLT, Int.reduceLE, Try.results50, results_data CT_gives50, resCell, resVal.eq_2, loadOp_sv, cF1]) ⟨rfl, on_nil hwf⟩)
    · refine w_block ?_
      refine w_Loop (fun xX : Int => ⟨[(0, .cv (.val (.sl (List.map eS words)))), (3, .cv (.val (.int .i64 xX)))], h.on []⟩) hr (To.cut hwf (Nat.le_refl _) rfl (by simp (disch := (apply Apart.mk; decide)) only [go_sem, Nat.reduceAdd, Nat.reduceLT, Nat.reduceMul, Nat.reduceLeDiff, Nat.lt_irrefl, Int.reduceToNat, Int.reduceLT, Int.reduceLE, cF1])) (fun W1 xX hr => ?_)
      obtain ⟨i, rfl⟩ : ∃ z, z = xX := ⟨xX, rfl⟩
      dsimp only [scansionref17_right.b1] at hr
      refine w_seq ?_
      refine w_seq ?_
      refine w_region rfl (by simp (disch := (apply Apart.mk; decide)) only [go_sem, Nat.reduceAdd, Nat.reduceLT, Nat.reduceMul, Nat.reduceLeDiff, Nat.lt_irrefl, Int.reduceToNat, Int.reduceLT, Int.reduceLE, cF1]; rfl) ?_
      refine (w_n ?_)
      refine w_condH (by simp (disch := (apply Apart.mk; decide)) only [go_sem, Nat.reduceAdd, Nat.reduceLT, Nat.reduceMul, Nat.reduceLeDiff, Nat.lt_irrefl, Int.reduceToNat, Int.reduceLT, Int.reduceLE, cF1]) hr (fun cF2 hr => ?_) (fun cF2 hr => ?_)
      · refine w_skip ?_
        refine (w_n ?_)
        refine w_seq ?_
        refine w_block ?_
        obtain ⟨v, vF12, hr⟩ := hr.bind
        refine w_joinR (sj := ⟨[(0, .cv (.val (.sl (List.map eS words)))), (3, .cv (.val (.int .i64 i))), (42, .cv (.val (.bool v)))], h.on []⟩) (w_drawn [0, 1, 2, 3, 4, 5, 6, 7, 8, 9, 10, 11, 12, 13, 14, 15, 16, 17, 18, 19, 20, 21, 22, 23, 24, 25, 26, 27, 28, 29] (by rfl) ?_) ?_
        · have hr := Holds.intro (D := fun z => z = v) vF12 rfl
          obtain ⟨s, nF3, eF4, gF5, hr⟩ := hr.idx
          refine p_run (l := [0, 1, 2, 3, 4, 5, 6]) (pend' := [6, 5, 4, 3, 2, 1, 0]) (by simp (disch := (apply Apart.mk; decide)) only [go_sem, Nat.reduceAdd, Nat.reduceLT, Nat.reduceMul, Nat.reduceLeDiff, Nat.lt_irrefl, Int.reduceToNat, Int.reduceLT, Int.reduceLE, nF3, eF4, gF5]; rfl) rfl ?_
          rcases hr.ite with ⟨cF6, hr⟩ | ⟨cF6, hr⟩
          · refine p_run (l := [7, 8, 9, 10, 11, 12, 13, 14, 15, 16, 17, 18, 19, 20, 21, 22, 23, 24, 25, 26, 27, 28, 29]) (pend' := [29, 28, 27, 26, 25, 24, 23, 22, 21, 20, 19, 18, 17, 16, 15, 14, 13, 12, 11, 10, 9, 8, 7, 6, 5, 4, 3, 2, 1, 0]) (by simp (disch := (apply Apart.mk; decide)) only [go_sem, Nat.reduceAdd, Nat.reduceLT, Nat.reduceMul, Nat.reduceLeDiff, Nat.lt_irrefl, Int.reduceToNat, Int.reduceLT, Int.reduceLE, nF3, eF4, gF5, cF6]; rfl) rfl ?_
            refine p_end (by simp (disch := (apply Apart.mk; decide)) only [go_sem, Nat.reduceAdd, Nat.reduceLT, Nat.reduceMul, Nat.reduceLeDiff, Nat.lt_irrefl, Int.reduceToNat, Int.reduceLT, Int.reduceLE, nF3, eF4, gF5, cF6]) ?_
            obtain rfl : _ = v := hr
            exact w_k (To.cut hwf (Nat.le_refl _) rfl (by simp (disch := (apply Apart.mk; decide)) only [go_sem, Nat.reduceAdd, Nat.reduceLT, Nat.reduceMul, Nat.reduceLeDiff, Nat.lt_irrefl, Int.reduceToNat, Int.reduceLT, Int.reduceLE, cF1, cF2, cF6]))
          · refine p_run (l := [7, 8, 9, 10, 11, 12, 13, 14]) (pend' := [14, 13, 12, 11, 10, 9, 8, 7, 6, 5, 4, 3, 2, 1, 0]) (by simp (disch := (apply Apart.mk; decide)) only [go_sem, Nat.reduceAdd, Nat.reduceLT, Nat.reduceMul, Nat.reduceLeDiff, Nat.lt_irrefl, Int.reduceToNat, Int.reduceLT, Int.reduceLE, nF3, eF4, gF5, cF6]; rfl) rfl ?_
            rcases hr.ite with ⟨cF7, hr⟩ | ⟨cF7, hr⟩
            · refine p_run (l := [15, 16, 17, 18, 19, 20, 21, 22, 23, 24, 25, 26, 27, 28, 29]) (pend' := [29, 28, 27, 26, 25, 24, 23, 22, 21, 20, 19, 18, 17, 16, 15, 14, 13, 12, 11, 10, 9, 8, 7, 6, 5, 4, 3, 2, 1, 0]) (by simp (disch := (apply Apart.mk; decide)) only [go_sem, Nat.reduceAdd, Nat.reduceLT, Nat.reduceMul, Nat.reduceLeDiff, Nat.lt_irrefl, Int.reduceToNat, Int.reduceLT, Int.reduceLE, nF3, eF4, gF5, cF6, cF7]; rfl) rfl ?_
              refine p_end (by simp (disch := (apply Apart.mk; decide)) only [go_sem, Nat.reduceAdd, Nat.reduceLT, Nat.reduceMul, Nat.reduceLeDiff, Nat.lt_irrefl, Int.reduceToNat, Int.reduceLT, Int.reduceLE, nF3, eF4, gF5, cF6, nF3, eF4, gF5, cF7]) ?_
              obtain rfl : _ = v := hr
              exact w_k (To.cut hwf (Nat.le_refl _) rfl (by simp (disch := (apply Apart.mk; decide)) only [go_sem, Nat.reduceAdd, Nat.reduceLT, Nat.reduceMul, Nat.reduceLeDiff, Nat.lt_irrefl, Int.reduceToNat, Int.reduceLT, Int.reduceLE, cF1, cF2, cF6, cF7]))
            · refine p_run (l := [15, 16, 17]) (pend' := [17, 16, 15, 14, 13, 12, 11, 10, 9, 8, 7, 6, 5, 4, 3, 2, 1, 0]) (by simp (disch := (apply Apart.mk; decide)) only [go_sem, Nat.reduceAdd, Nat.reduceLT, Nat.reduceMul, Nat.reduceLeDiff, Nat.lt_irrefl, Int.reduceToNat, Int.reduceLT, Int.reduceLE, nF3, eF4, gF5, cF6, cF7]; rfl) rfl ?_
              rcases hr.ite with ⟨cF8, hr⟩ | ⟨cF8, hr⟩
              · obtain ⟨s1, nF9, eF10, gF11, hr⟩ := hr.idx
                refine p_run (l := [18, 19, 20, 21, 22, 23, 24, 25, 26, 27, 28, 29]) (pend' := [29, 28, 27, 26, 25, 24, 23, 22, 21, 20, 19, 18, 17, 16, 15, 14, 13, 12, 11, 10, 9, 8, 7, 6, 5, 4, 3, 2, 1, 0]) (by simp (disch := (apply Apart.mk; decide)) only [go_sem, Nat.reduceAdd, Nat.reduceLT, Nat.reduceMul, Nat.reduceLeDiff, Nat.lt_irrefl, Int.reduceToNat, Int.reduceLT, Int.reduceLE, nF3, eF4, gF5, cF6, cF7, cF8, nF9, eF10, gF11]; rfl) rfl ?_
                refine p_end (by simp (disch := (apply Apart.mk; decide)) only [go_sem, Nat.reduceAdd, Nat.reduceLT, Nat.reduceMul, Nat.reduceLeDiff, Nat.lt_irrefl, Int.reduceToNat, Int.reduceLT, Int.reduceLE, nF3, eF4, gF5, cF6, nF3, eF4, gF5, cF7, cF8, nF3, eF4, gF5, nF9, eF10, gF11]) ?_
                obtain rfl : _ = v := hr
                exact w_k (To.cut hwf (Nat.le_refl _) rfl (by simp (disch := (apply Apart.mk; decide)) only [go_sem, Nat.reduceAdd, Nat.reduceLT, Nat.reduceMul, Nat.reduceLeDiff, Nat.lt_irrefl, Int.reduceToNat, Int.reduceLT, Int.reduceLE, cF1, cF2, cF6, cF7, cF8]))
              · refine p_run (l := [18, 19, 20, 21, 22, 23, 24, 25, 26, 27, 28, 29]) (pend' := [29, 28, 27, 26, 25, 24, 23, 22, 21, 20, 19, 18, 17, 16, 15, 14, 13, 12, 11, 10, 9, 8, 7, 6, 5, 4, 3, 2, 1, 0]) (by simp (disch := (apply Apart.mk; decide)) only [go_sem, Nat.reduceAdd, Nat.reduceLT, Nat.reduceMul, Nat.reduceLeDiff, Nat.lt_irrefl, Int.reduceToNat, Int.reduceLT, Int.reduceLE, nF3, eF4, gF5, cF6, cF7, cF8]; rfl) rfl ?_
                refine p_end (by simp (disch := (apply Apart.mk; decide)) only [go_sem, Nat.reduceAdd, Nat.reduceLT, Nat.reduceMul, Nat.reduceLeDiff, Nat.lt_irrefl, Int.reduceToNat, Int.reduceLT, Int.reduceLE, nF3, eF4, gF5, cF6, nF3, eF4, gF5, cF7, cF8]) ?_
                obtain rfl : _ = v := hr
                exact w_k (To.cut hwf (Nat.le_refl _) rfl (by simp (disch := (apply Apart.mk; decide)) only [go_sem, Nat.reduceAdd, Nat.reduceLT, Nat.reduceMul, Nat.reduceLeDiff, Nat.lt_irrefl, Int.reduceToNat, Int.reduceLT, Int.reduceLE, cF1, cF2, cF6, cF7, cF8]))
        refine w_condH (by simp (disch := (apply Apart.mk; decide)) only [go_sem, Nat.reduceAdd, Nat.reduceLT, Nat.reduceMul, Nat.reduceLeDiff, Nat.lt_irrefl, Int.reduceToNat, Int.reduceLT, Int.reduceLE, cF1, cF2]) hr (fun cF13 hr => ?_) (fun cF13 hr => ?_)
        · refine w_seq ?_
          refine w_region rfl (by simp (disch := (apply Apart.mk; decide)) only [go_sem, Nat.reduceAdd, Nat.reduceLT, Nat.reduceMul, Nat.reduceLeDiff, Nat.lt_irrefl, Int.reduceToNat, Int.reduceLT, Int.reduceLE, cF1, cF2, cF13]; rfl) ?_
          refine (w_n ?_)
          refine w_ret ?_
          obtain rfl := hD _ hr
          exact (w_br (w_tr (w_tr (w_br (w_tr (w_tr (w_endR (To.cut (os' := []) (sl := [(2, .cv (.val (.bool false)))]) hwf (Nat.le_refl _) rfl (by simp (disch := (apply Apart.mk; decide)) only [go_sem, Nat.reduceAdd, Nat.reduceLT, Nat.reduceMul, Nat.reduceLeDiff, Nat.lt_irrefl, Int.reduceToNat, Int.reduceLT, Int.reduceLE, cF1, cF2, cF13])) (by simp (disch := (apply Apart.mk; decide)) only [go_sem, Nat.reduceAdd, Nat.reduceLT, Nat.reduceMul, Nat.reduceLeDiff, Nat.lt_irrefl, Int.reduceToNat, Int.reduceLT, Int.reduceLE, Try.results50, results_data CT_gives50, resCell, resVal.eq_2, loadOp_sv, cF1, cF2, cF13]) ⟨rfl, on_nil hwf⟩)))))))
        · refine w_skip ?_
          refine (w_bn (w_n ?_))
          refine w_region rfl (by simp (disch := (apply Apart.mk; decide)) only [go_sem, Nat.reduceAdd, Nat.reduceLT, Nat.reduceMul, Nat.reduceLeDiff, Nat.lt_irrefl, Int.reduceToNat, Int.reduceLT, Int.reduceLE, cF1, cF2, cF13]; rfl) ?_
          exact (w_k ⟨(IntKind.i64.wrap (i + (1 : Int))), hr, (To.cut hwf (Nat.le_refl _) rfl (by simp (disch := (apply Apart.mk; decide)) only [go_sem, Nat.reduceAdd, Nat.reduceLT, Nat.reduceMul, Nat.reduceLeDiff, Nat.lt_irrefl, Int.reduceToNat, Int.reduceLT, Int.reduceLE, cF1, cF2, cF13]))⟩)
      · refine w_exit ?_
        exact (w_te (w_te (w_bx (w_k ⟨(), (hr).map, (To.cut hwf (Nat.le_refl _) rfl (by simp (disch := (apply Apart.mk; decide)) only [go_sem, Nat.reduceAdd, Nat.reduceLT, Nat.reduceMul, Nat.reduceLeDiff, Nat.lt_irrefl, Int.reduceToNat, Int.reduceLT, Int.reduceLE, cF1, cF2]))⟩))))
end Go.Val

/- part GW74 -/
/- scansion/scansionref17.one runs as it is read off. -/
namespace Go.Val
set_option linter.unusedVariables false
set_option linter.unusedSimpArgs false
set_option maxRecDepth 20000
open Go.Proofs
theorem scansionref17_one_runs (ends : List Str) {h : Heap} {a : Str} (e : scansionref17_one ends = some a) :
    Runs CT 74 [.cv (.val (.sl (List.map eS ends)))] h fun o h' => o = [.cv (.val (.str (bs a)))] ∧ h' = h := by
  refine Runs.start Try.f74 _ Try.func74 rfl (by rw [Try.ntmps74]; simp) (by rfl) (by rfl) (fun hwf hu => ?_)
  obtain ⟨D, hD, hr⟩ : ∃ D : Str → Prop, (∀ z, D z → z = a) ∧ Holds (scansionref17_one ends) D := ⟨fun z => z = a, fun _ h => h, Holds.intro e rfl⟩
  dsimp only [scansionref17_one] at hr
  change wpCode _ _ _ _ _ ⟨[(0, .cv (.val (.sl (List.map eS ends))))], h.on []⟩
  refine w_seq ?_
  refine w_region rfl (by simp (disch := (apply Apart.mk; decide)) only [go_sem, Nat.reduceAdd, Nat.reduceLT, Nat.reduceMul, Nat.reduceLeDiff, Nat.lt_irrefl, Int.reduceToNat, Int.reduceLT, Int.reduceLE]; rfl) ?_
  refine (w_n ?_)
  refine w_seq ?_
  refine w_region rfl (by simp (disch := (apply Apart.mk; decide)) only [go_sem, Nat.reduceAdd, Nat.reduceLT, Nat.reduceMul, Nat.reduceLeDiff, Nat.lt_irrefl, Int.reduceToNat, Int.reduceLT, Int.reduceLE]; rfl) ?_
  refine (w_n ?_)
  refine w_seq ?_
  refine w_seq ?_
  refine w_region rfl (by simp (disch := (apply Apart.mk; decide)) only [go_sem, Nat.reduceAdd, Nat.reduceLT, Nat.reduceMul, Nat.reduceLeDiff, Nat.lt_irrefl, Int.reduceToNat, Int.reduceLT, Int.reduceLE]; rfl) ?_
  refine (w_n ?_)
  refine w_K (D := D) (fun xX : Str => ⟨[(3, .cv (.val (.str (bs xX))))], h.on []⟩) (fun xX : Str => scansionref17_one.k1 xX) (fun xX s' hr ht => ?_) ?_
  · obtain ⟨s, rfl⟩ : ∃ z, z = xX := ⟨xX, rfl⟩
    dsimp only [scansionref17_one.k1] at hr ht
    refine (w_nT ht ?_)
    refine w_seq ?_
    refine w_region rfl (by simp (disch := (apply Apart.mk; decide)) only [go_sem, Nat.reduceAdd, Nat.reduceLT, Nat.reduceMul, Nat.reduceLeDiff, Nat.lt_irrefl, Int.reduceToNat, Int.reduceLT, Int.reduceLE]; rfl) ?_
    refine (w_n ?_)
    refine w_ret ?_
    obtain rfl := hD _ hr
    exact (w_endR (To.cut (os' := []) (sl := [(2, .cv (.val (.str (bs s))))]) hwf (Nat.le_refl _) rfl (by simp (disch := (apply Apart.mk; decide)) only [go_sem, Nat.reduceAdd, Nat.reduceLT, Nat.reduceMul, Nat.reduceLeDiff, Nat.lt_irrefl, Int.reduceToNat, Int.reduceLT, Int.reduceLE])) (by simp (disch := (apply Apart.mk; decide)) only [go_sem, Nat.reduceAdd, Nat.reduceLT, Nat.reduceMul, Nat.reduceLeDiff, Nat.lt_irrefl, Int.reduceToNat, Int.reduceLT, Int.reduceLE, Try.results74, results_data CT_gives74, resCell, resVal.eq_2, loadOp_sv]) ⟨rfl, on_nil hwf⟩)
  · refine w_block ?_
    refine w_Loop (fun xX : (Str × Int) => ⟨[(0, .cv (.val (.sl (List.map eS ends)))), (3, .cv (.val (.str (bs xX.1)))), (4, .cv (.val (.int .i64 xX.2)))], h.on []⟩) hr (To.cut hwf (Nat.le_refl _) rfl (by simp (disch := (apply Apart.mk; decide)) only [go_sem, Nat.reduceAdd, Nat.reduceLT, Nat.reduceMul, Nat.reduceLeDiff, Nat.lt_irrefl, Int.reduceToNat, Int.reduceLT, Int.reduceLE])) (fun W1 xX hr => ?_)
    obtain ⟨s1, i⟩ := xX
    dsimp only [scansionref17_one.b1] at hr
    refine w_seq ?_
    refine w_seq ?_
    refine w_region rfl (by simp (disch := (apply Apart.mk; decide)) only [go_sem, Nat.reduceAdd, Nat.reduceLT, Nat.reduceMul, Nat.reduceLeDiff, Nat.lt_irrefl, Int.reduceToNat, Int.reduceLT, Int.reduceLE]; rfl) ?_
    refine (w_n ?_)
    refine w_condH (by simp (disch := (apply Apart.mk; decide)) only [go_sem, Nat.reduceAdd, Nat.reduceLT, Nat.reduceMul, Nat.reduceLeDiff, Nat.lt_irrefl, Int.reduceToNat, Int.reduceLT, Int.reduceLE]) hr (fun cF1 hr => ?_) (fun cF1 hr => ?_)
    · refine w_skip ?_
      refine (w_n ?_)
      refine w_seq ?_
      refine w_block ?_
      refine w_drawn [0, 1, 2, 3, 4, 5, 6, 7, 8, 9, 10, 11, 12, 13, 14, 15] (by rfl) ?_
      obtain ⟨s2, nF2, eF3, gF4, hr⟩ := hr.idx
      obtain ⟨nF5, hr⟩ := hr.roomS
      obtain ⟨nF6, hr⟩ := hr.roomS
      refine p_run (l := [0, 1, 2, 3, 4, 5, 6, 7, 8, 9, 10, 11, 12, 13, 14]) (pend' := [14, 13, 12, 11, 10, 9, 8, 7, 6, 5, 4, 3, 2, 1, 0]) (by simp (disch := (apply Apart.mk; decide)) only [go_sem, Nat.reduceAdd, Nat.reduceLT, Nat.reduceMul, Nat.reduceLeDiff, Nat.lt_irrefl, Int.reduceToNat, Int.reduceLT, Int.reduceLE, nF2, eF3, gF4, nF5, nF6]; rfl) rfl ?_
      refine p_op (pend' := []) rfl (by simp (disch := (apply Apart.mk; decide)) only [go_sem, Nat.reduceAdd, Nat.reduceLT, Nat.reduceMul, Nat.reduceLeDiff, Nat.lt_irrefl, Int.reduceToNat, Int.reduceLT, Int.reduceLE, nF2, eF3, gF4, nF5, nF6]) (by simp (disch := (apply Apart.mk; decide)) only [go_sem, Nat.reduceAdd, Nat.reduceLT, Nat.reduceMul, Nat.reduceLeDiff, Nat.lt_irrefl, Int.reduceToNat, Int.reduceLT, Int.reduceLE, nF2, eF3, gF4, nF5, nF6]; rfl) (by rfl) ?_
      refine p_end (by simp (disch := (apply Apart.mk; decide)) only [go_sem, Nat.reduceAdd, Nat.reduceLT, Nat.reduceMul, Nat.reduceLeDiff, Nat.lt_irrefl, Int.reduceToNat, Int.reduceLT, Int.reduceLE, nF2, eF3, gF4, nF5, nF2, eF3, gF4, nF6]) ?_
      refine (w_bn (w_n ?_))
      refine w_region rfl (by simp (disch := (apply Apart.mk; decide)) only [go_sem, Nat.reduceAdd, Nat.reduceLT, Nat.reduceMul, Nat.reduceLeDiff, Nat.lt_irrefl, Int.reduceToNat, Int.reduceLT, Int.reduceLE, cF1]; rfl) ?_
      exact (w_k ⟨(((s1 ++ ([(u8 (IntKind.u8.wrap (s2.length : Int)))])) ++ s2), (IntKind.i64.wrap (i + (1 : Int)))), hr, (To.cut hwf (Nat.le_refl _) rfl (by simp (disch := (apply Apart.mk; decide)) only [go_sem, Nat.reduceAdd, Nat.reduceLT, Nat.reduceMul, Nat.reduceLeDiff, Nat.lt_irrefl, Int.reduceToNat, Int.reduceLT, Int.reduceLE, cF1]))⟩)
    · refine w_exit ?_
      exact (w_te (w_te (w_bx (w_k ⟨s1, (hr).map, (To.cut hwf (Nat.le_refl _) rfl (by simp (disch := (apply Apart.mk; decide)) only [go_sem, Nat.reduceAdd, Nat.reduceLT, Nat.reduceMul, Nat.reduceLeDiff, Nat.lt_irrefl, Int.reduceToNat, Int.reduceLT, Int.reduceLE, cF1]))⟩))))
end Go.Val

/- part GW75 -/
/- scansion/scansionref17.behind runs as it is read off. -/
namespace Go.Val
set_option linter.unusedVariables false
set_option linter.unusedSimpArgs false
set_option maxRecDepth 20000
open Go.Proofs
theorem scansionref17_behind_runs (ends : List Str) (b : UInt8) {h : Heap} {a : List Str} (e : scansionref17_behind ends b = some a) :
    Runs CT 75 [.cv (.val (.sl (List.map eS ends))), .cv (.val (.int .u8 (b.toNat : Int)))] h fun o h' => o = [.cv (.val (.sl (List.map eS a)))] ∧ h' = h := by
  refine Runs.start Try.f75 _ Try.func75 rfl (by rw [Try.ntmps75]; simp) (by rfl) (by rfl) (fun hwf hu => ?_)
  obtain ⟨D, hD, hr⟩ : ∃ D : List Str → Prop, (∀ z, D z → z = a) ∧ Holds (scansionref17_behind ends b) D := ⟨fun z => z = a, fun _ h => h, Holds.intro e rfl⟩
  dsimp only [scansionref17_behind] at hr
  change wpCode _ _ _ _ _ ⟨[(0, .cv (.val (.sl (List.map eS ends)))), (1, .cv (.val (.int .u8 (b.toNat : Int))))], h.on []⟩
  refine w_seq ?_
  refine w_region rfl (by simp (disch := (apply Apart.mk; decide)) only [go_sem, Nat.reduceAdd, Nat.reduceLT, Nat.reduceMul, Nat.reduceLeDiff, Nat.lt_irrefl, Int.reduceToNat, Int.reduceLT, Int.reduceLE]; rfl) ?_
  refine (w_n ?_)
  refine w_seq ?_
  refine w_region rfl (by simp (disch := (apply Apart.mk; decide)) only [go_sem, Nat.reduceAdd, Nat.reduceLT, Nat.reduceMul, Nat.reduceLeDiff, Nat.lt_irrefl, Int.reduceToNat, Int.reduceLT, Int.reduceLE]; rfl) ?_
  refine (w_n ?_)
  refine w_seq ?_
  refine w_seq ?_
  refine w_region rfl (by simp (disch := (apply Apart.mk; decide)) only [go_sem, Nat.reduceAdd, Nat.reduceLT, Nat.reduceMul, Nat.reduceLeDiff, Nat.lt_irrefl, Int.reduceToNat, Int.reduceLT, Int.reduceLE]; rfl) ?_
  refine (w_n ?_)
  refine w_K (D := D) (fun xX : List Str => ⟨[(5, .cv (.row 9 (List.map eS xX)))], h.on []⟩) (fun xX : List Str => scansionref17_behind.k1 xX) (fun xX s' hr ht => ?_) ?_
  · obtain ⟨out, rfl⟩ : ∃ z, z = xX := ⟨xX, rfl⟩
    dsimp only [scansionref17_behind.k1] at hr ht
    refine (w_nT ht ?_)
    refine w_seq ?_
    refine w_region rfl (by simp (disch := (apply Apart.mk; decide)) only [go_sem, Nat.reduceAdd, Nat.reduceLT, Nat.reduceMul, Nat.reduceLeDiff, Nat.lt_irrefl, Int.reduceToNat, Int.reduceLT, Int.reduceLE]; rfl) ?_
    refine (w_n ?_)
    refine w_ret ?_
    obtain rfl := hD _ hr
    exact (w_endR (.fix _ _ (.slot 4) 9 _ (by simp (disch := (apply Apart.mk; decide)) only [go_sem, Nat.reduceAdd, Nat.reduceLT, Nat.reduceMul, Nat.reduceLeDiff, Nat.lt_irrefl, Int.reduceToNat, Int.reduceLT, Int.reduceLE]; rfl) (To.cut (os' := []) (sl := [(4, .cv (.val (.sl (List.map eS out))))]) hwf (Nat.le_refl _) rfl (by simp (disch := (apply Apart.mk; decide)) only [go_sem, Nat.reduceAdd, Nat.reduceLT, Nat.reduceMul, Nat.reduceLeDiff, Nat.lt_irrefl, Int.reduceToNat, Int.reduceLT, Int.reduceLE]))) (by simp (disch := (apply Apart.mk; decide)) only [go_sem, Nat.reduceAdd, Nat.reduceLT, Nat.reduceMul, Nat.reduceLeDiff, Nat.lt_irrefl, Int.reduceToNat, Int.reduceLT, Int.reduceLE, Try.results75, results_data CT_gives75, resCell, resVal.eq_2, loadOp_sv]) ⟨rfl, on_nil hwf⟩)
  · refine w_block ?_
    refine w_Loop (fun xX : (List Str × Int) => ⟨[(0, .cv (.val (.sl (List.map eS ends)))), (1, .cv (.val (.int .u8 (b.toNat : Int)))), (5, .cv (.row 9 (List.map eS xX.1))), (6, .cv (.val (.int .i64 xX.2)))], h.on []⟩) hr (To.cut hwf (Nat.le_refl _) rfl (by simp (disch := (apply Apart.mk; decide)) only [go_sem, Nat.reduceAdd, Nat.reduceLT, Nat.reduceMul, Nat.reduceLeDiff, Nat.lt_irrefl, Int.reduceToNat, Int.reduceLT, Int.reduceLE])) (fun W1 xX hr => ?_)
    obtain ⟨out1, i⟩ := xX
    dsimp only [scansionref17_behind.b1] at hr
    refine w_seq ?_
    refine w_seq ?_
    refine w_region rfl (by simp (disch := (apply Apart.mk; decide)) only [go_sem, Nat.reduceAdd, Nat.reduceLT, Nat.reduceMul, Nat.reduceLeDiff, Nat.lt_irrefl, Int.reduceToNat, Int.reduceLT, Int.reduceLE]; rfl) ?_
    refine (w_n ?_)
    refine w_condH (by simp (disch := (apply Apart.mk; decide)) only [go_sem, Nat.reduceAdd, Nat.reduceLT, Nat.reduceMul, Nat.reduceLeDiff, Nat.lt_irrefl, Int.reduceToNat, Int.reduceLT, Int.reduceLE]) hr (fun cF1 hr => ?_) (fun cF1 hr => ?_)
    · refine w_skip ?_
      refine (w_n ?_)
      refine w_seq ?_
      refine w_K (D := (Aft W1 D)) (fun xX : List Str => ⟨[(0, .cv (.val (.sl (List.map eS ends)))), (1, .cv (.val (.int .u8 (b.toNat : Int)))), (5, .cv (.row 9 (List.map eS xX))), (6, .cv (.val (.int .i64 i)))], h.on []⟩) (fun xX : List Str => scansionref17_behind.k2 i xX) (fun xX s' hr ht => ?_) ?_
      · obtain ⟨out2, rfl⟩ : ∃ z, z = xX := ⟨xX, rfl⟩
        dsimp only [scansionref17_behind.k2] at hr ht
        refine (w_nT ht ?_)
        refine w_region rfl (by simp (disch := (apply Apart.mk; decide)) only [go_sem, Nat.reduceAdd, Nat.reduceLT, Nat.reduceMul, Nat.reduceLeDiff, Nat.lt_irrefl, Int.reduceToNat, Int.reduceLT, Int.reduceLE, cF1]; rfl) ?_
        exact (w_k ⟨(out2, (IntKind.i64.wrap (i + (1 : Int)))), hr, (To.cut hwf (Nat.le_refl _) rfl (by simp (disch := (apply Apart.mk; decide)) only [go_sem, Nat.reduceAdd, Nat.reduceLT, Nat.reduceMul, Nat.reduceLeDiff, Nat.lt_irrefl, Int.reduceToNat, Int.reduceLT, Int.reduceLE, cF1]))⟩)
      · refine w_block ?_
        obtain ⟨v, vF8, hr⟩ := hr.bind
        refine w_joinR (sj := ⟨[(0, .cv (.val (.sl (List.map eS ends)))), (1, .cv (.val (.int .u8 (b.toNat : Int)))), (5, .cv (.row 9 (List.map eS out1))), (6, .cv (.val (.int .i64 i))), (27, .cv (.val (.bool v)))], h.on []⟩) (w_ops rfl ?_) ?_
        · have hr := Holds.intro (D := fun z => z = v) vF8 rfl
          obtain ⟨s, nF2, eF3, gF4, hr⟩ := hr.idx
          refine w_upto 7 rfl (by simp (disch := (apply Apart.mk; decide)) only [go_sem, Nat.reduceAdd, Nat.reduceLT, Nat.reduceMul, Nat.reduceLeDiff, Nat.lt_irrefl, Int.reduceToNat, Int.reduceLT, Int.reduceLE, nF2, eF3, gF4]; rfl) ?_
          rcases hr.ite with ⟨cF5, hr⟩ | ⟨cF5, hr⟩
          · obtain ⟨c, eF6, gF7, hr⟩ := hr.idxK
            refine w_ops_end (by simp (disch := (apply Apart.mk; decide)) only [go_sem, Nat.reduceAdd, Nat.reduceLT, Nat.reduceMul, Nat.reduceLeDiff, Nat.lt_irrefl, Int.reduceToNat, Int.reduceLT, Int.reduceLE, nF2, eF3, gF4, cF5, eF6, gF7]; rfl) ?_
            obtain rfl : _ = v := hr
            exact w_k (To.cut hwf (Nat.le_refl _) rfl (by simp (disch := (apply Apart.mk; decide)) only [go_sem, Nat.reduceAdd, Nat.reduceLT, Nat.reduceMul, Nat.reduceLeDiff, Nat.lt_irrefl, Int.reduceToNat, Int.reduceLT, Int.reduceLE, cF1, cF5]))
          · refine w_ops_end (by simp (disch := (apply Apart.mk; decide)) only [go_sem, Nat.reduceAdd, Nat.reduceLT, Nat.reduceMul, Nat.reduceLeDiff, Nat.lt_irrefl, Int.reduceToNat, Int.reduceLT, Int.reduceLE, nF2, eF3, gF4, cF5]; rfl) ?_
            obtain rfl : _ = v := hr
            exact w_k (To.cut hwf (Nat.le_refl _) rfl (by simp (disch := (apply Apart.mk; decide)) only [go_sem, Nat.reduceAdd, Nat.reduceLT, Nat.reduceMul, Nat.reduceLeDiff, Nat.lt_irrefl, Int.reduceToNat, Int.reduceLT, Int.reduceLE, cF1, cF5]))
        refine w_condH (by simp (disch := (apply Apart.mk; decide)) only [go_sem, Nat.reduceAdd, Nat.reduceLT, Nat.reduceMul, Nat.reduceLeDiff, Nat.lt_irrefl, Int.reduceToNat, Int.reduceLT, Int.reduceLE, cF1]) hr (fun cF9 hr => ?_) (fun cF9 hr => ?_)
        · obtain ⟨s1, nF10, eF11, gF12, hr⟩ := hr.idx
          obtain ⟨nF13, nF14, hr⟩ := hr.cutL
          obtain ⟨nF15, hr⟩ := hr.room
          refine w_region rfl (by simp (disch := (apply Apart.mk; decide)) only [go_sem, Nat.reduceAdd, Nat.reduceLT, Nat.reduceMul, Nat.reduceLeDiff, Nat.lt_irrefl, Int.reduceToNat, Int.reduceLT, Int.reduceLE, nF10, eF11, gF12, nF13, nF14, nF15, cF1, cF9]; rfl) ?_
          exact (w_bn (w_k ⟨(out1 ++ ([(List.drop (Int.toNat (1 : Int)) s1)])), hr, (To.cut hwf (Nat.le_refl _) rfl (by simp (disch := (apply Apart.mk; decide)) only [go_sem, Nat.reduceAdd, Nat.reduceLT, Nat.reduceMul, Nat.reduceLeDiff, Nat.lt_irrefl, Int.reduceToNat, Int.reduceLT, Int.reduceLE, cF1, cF9]))⟩))
        · refine w_skip ?_
          exact (w_bn (w_k ⟨out1, hr, (To.cut hwf (Nat.le_refl _) rfl (by simp (disch := (apply Apart.mk; decide)) only [go_sem, Nat.reduceAdd, Nat.reduceLT, Nat.reduceMul, Nat.reduceLeDiff, Nat.lt_irrefl, Int.reduceToNat, Int.reduceLT, Int.reduceLE, cF1, cF9]))⟩))
    · refine w_exit ?_
      exact (w_te (w_te (w_bx (w_k ⟨out1, (hr).map, (To.cut hwf (Nat.le_refl _) rfl (by simp (disch := (apply Apart.mk; decide)) only [go_sem, Nat.reduceAdd, Nat.reduceLT, Nat.reduceMul, Nat.reduceLeDiff, Nat.lt_irrefl, Int.reduceToNat, Int.reduceLT, Int.reduceLE, cF1]))⟩))))
end Go.Val

/- part GW51 -/
/- (*scansion/scansionref17.maker).state runs as it is read off. -/
namespace Go.Val
set_option linter.unusedVariables false
set_option linter.unusedSimpArgs false
set_option maxRecDepth 20000
open Go.Proofs
theorem scansionref17_maker_state_runs_r : ∀ (fu : Nat) (m : Tscansionref17_maker) (ends : List Str) (l0 : Nat) {h : Heap} (ha0 : h.at_ l0 = some (.cells [.row 4 (List.map eB m.g.Final), .row 35 (List.map (eL eEdge) m.g.Edges), .row 9 (List.map eS m.ends)])) {a : (Int × Tscansionref17_maker)} (e : scansionref17_maker_state.r fu m ends = some a),
    Runs CT 51 [.cv (.val (.ptr (some (l0, 0)))), .cv (.val (.sl (List.map eS ends)))] h fun o h' => o = [.cv (.val (.int .i64 a.1))] ∧ h' = (h.upd l0 (.cells [.row 4 (List.map eB a.2.g.Final), .row 35 (List.map (eL eEdge) a.2.g.Edges), .row 9 (List.map eS a.2.ends)])) := by
  intro fu
  induction fu with
  | zero => intros; rename_i e; simp [scansionref17_maker_state.r] at e
  | succ fu ih =>
    intro m ends l0 h ha0 a e
    refine Runs.start Try.f51 _ Try.func51 rfl (by rw [Try.ntmps51]; simp) (by rfl) (by rfl) (fun hwf hu => ?_)
    have hl0 := (hwf _ _ ha0).1
    obtain ⟨D, hD, hr⟩ : ∃ D : (Int × Tscansionref17_maker) → Prop, (∀ z, D z → z = a) ∧ Holds (scansionref17_maker_state.r (fu + 1) m ends) D := ⟨fun z => z = a, fun _ h => h, Holds.intro e rfl⟩
    dsimp only [scansionref17_maker_state.r] at hr
    change wpCode _ _ _ _ _ ⟨[(0, .cv (.val (.ptr (some (l0, 0))))), (1, .cv (.val (.sl (List.map eS ends))))], h.on []⟩
    refine w_seq ?_
    refine w_region rfl (by simp (disch := (apply Apart.mk; decide)) only [go_sem, Nat.reduceAdd, Nat.reduceLT, Nat.reduceMul, Nat.reduceLeDiff, Nat.lt_irrefl, Int.reduceToNat, Int.reduceLT, Int.reduceLE, ha0, on_atB hl0, lt_add hl0, lt_at hl0, on_updB hl0, on_atU hl0, on_updU hl0, upd_same ha0]; rfl) ?_
    refine (w_n ?_)
    refine w_seq ?_
    refine w_ops rfl ?_
    refine w_upto 1 rfl (by simp (disch := (apply Apart.mk; decide)) only [go_sem, Nat.reduceAdd, Nat.reduceLT, Nat.reduceMul, Nat.reduceLeDiff, Nat.lt_irrefl, Int.reduceToNat, Int.reduceLT, Int.reduceLE, ha0, on_atB hl0, lt_add hl0, lt_at hl0, on_updB hl0, on_atU hl0, on_updU hl0, upd_same ha0]; rfl) ?_
    obtain ⟨r, eF1, hr⟩ := hr.bind
    refine w_call' (out := ?o_eF1) (hp := ?p_eF1) rfl (by simp (disch := (apply Apart.mk; decide)) only [go_sem, Nat.reduceAdd, Nat.reduceLT, Nat.reduceMul, Nat.reduceLeDiff, Nat.lt_irrefl, Int.reduceToNat, Int.reduceLT, Int.reduceLE, ha0, on_atB hl0, lt_add hl0, lt_at hl0, on_updB hl0, on_atU hl0, on_updU hl0, upd_same ha0, Option.getD_some]; rfl) (by simp (disch := (apply Apart.mk; decide)) only [go_sem, Nat.reduceAdd, Nat.reduceLT, Nat.reduceMul, Nat.reduceLeDiff, Nat.lt_irrefl, Int.reduceToNat, Int.reduceLT, Int.reduceLE, ha0, on_atB hl0, lt_add hl0, lt_at hl0, on_updB hl0, on_atU hl0, on_updU hl0, upd_same ha0, Option.getD_some]; rfl) (by simp (disch := (apply Apart.mk; decide)) only [go_sem, Nat.reduceAdd, Nat.reduceLT, Nat.reduceMul, Nat.reduceLeDiff, Nat.lt_irrefl, Int.reduceToNat, Int.reduceLT, Int.reduceLE, ha0, on_atB hl0, lt_add hl0, lt_at hl0, on_updB hl0, on_atU hl0, on_updU hl0, upd_same ha0, Option.getD_some]; rfl) ?c_eF1 ?d_eF1 ?_
    case c_eF1 => exact scansionref17_one_runs ends eF1
    case d_eF1 => rfl
    refine w_ops_end (by simp (disch := (apply Apart.mk; decide)) only [go_sem, Nat.reduceAdd, Nat.reduceLT, Nat.reduceMul, Nat.reduceLeDiff, Nat.lt_irrefl, Int.reduceToNat, Int.reduceLT, Int.reduceLE, ha0, on_atB hl0, lt_add hl0, lt_at hl0, on_updB hl0, on_atU hl0, on_updU hl0, upd_same ha0]; rfl) ?_
    refine (w_n ?_)
    refine w_seq ?_
    refine w_seq ?_
    refine w_region rfl (by simp (disch := (apply Apart.mk; decide)) only [go_sem, Nat.reduceAdd, Nat.reduceLT, Nat.reduceMul, Nat.reduceLeDiff, Nat.lt_irrefl, Int.reduceToNat, Int.reduceLT, Int.reduceLE, ha0, on_atB hl0, lt_add hl0, lt_at hl0, on_updB hl0, on_atU hl0, on_updU hl0, upd_same ha0]; rfl) ?_
    refine (w_n ?_)
    refine w_K (D := D) (fun xX : Unit => ⟨[(0, .cv (.val (.ptr (some (l0, 0))))), (1, .cv (.val (.sl (List.map eS ends)))), (5, .cv (.val (.str (bs r))))], h.on []⟩) (fun xX : Unit => scansionref17_maker_state.k1 (scansionref17_maker_state.r fu) m ends r) (fun xX s' hr ht => ?_) ?_
    · dsimp only [scansionref17_maker_state.k1] at hr ht
      refine (w_nT ht ?_)
      refine w_seq ?_
      refine w_region rfl (by simp (disch := (apply Apart.mk; decide)) only [go_sem, Nat.reduceAdd, Nat.reduceLT, Nat.reduceMul, Nat.reduceLeDiff, Nat.lt_irrefl, Int.reduceToNat, Int.reduceLT, Int.reduceLE, ha0, on_atB hl0, lt_add hl0, lt_at hl0, on_updB hl0, on_atU hl0, on_updU hl0, upd_same ha0]; rfl) ?_
      refine (w_n ?_)
      refine w_seq ?_
      refine w_seq ?_
      refine w_region rfl (by simp (disch := (apply Apart.mk; decide)) only [go_sem, Nat.reduceAdd, Nat.reduceLT, Nat.reduceMul, Nat.reduceLeDiff, Nat.lt_irrefl, Int.reduceToNat, Int.reduceLT, Int.reduceLE, ha0, on_atB hl0, lt_add hl0, lt_at hl0, on_updB hl0, on_atU hl0, on_updU hl0, upd_same ha0]; rfl) ?_
      refine (w_n ?_)
      refine w_K (D := D) (fun xX : (List TEdge × List Bool × List (List TEdge) × List Str) => ⟨[(0, .cv (.val (.ptr (some (l0, 0))))), (1, .cv (.val (.sl (List.map eS ends)))), (5, .cv (.val (.str (bs r)))), (7, .cv (.row 37 (List.map eEdge xX.1)))], (h.upd l0 (.cells [.row 4 (List.map eB xX.2.1), .row 35 (List.map (eL eEdge) xX.2.2.1), .row 9 (List.map eS xX.2.2.2)])).on []⟩) (fun xX : (List TEdge × List Bool × List (List TEdge) × List Str) => scansionref17_maker_state.k2 ends r xX.1 xX.2.1 xX.2.2.1 xX.2.2.2) (fun xX s' hr ht => ?_) ?_
      · obtain ⟨edges, Final, Edges, ends1⟩ := xX
        dsimp only [scansionref17_maker_state.k2] at hr ht
        refine (w_nT ht ?_)
        refine w_seq ?_
        obtain ⟨nF2, hr⟩ := hr.room
        refine w_region rfl (by simp (disch := (apply Apart.mk; decide)) only [go_sem, Nat.reduceAdd, Nat.reduceLT, Nat.reduceMul, Nat.reduceLeDiff, Nat.lt_irrefl, Int.reduceToNat, Int.reduceLT, Int.reduceLE, ha0, on_atB hl0, lt_add hl0, lt_at hl0, on_updB hl0, on_atU hl0, on_updU hl0, upd_same ha0, nF2]; rfl) ?_
        refine (w_n ?_)
        obtain ⟨Final1, vF8, hr⟩ := hr.bind
        refine w_joinR (sj := ⟨[(0, .cv (.val (.ptr (some (l0, 0))))), (7, .cv (.row 37 (List.map eEdge edges)))], (h.upd l0 (.cells [.row 4 (List.map eB Final1), .row 35 (List.map (eL eEdge) Edges), .row 9 (List.map eS (ends1 ++ ([r])))])).on []⟩) (w_drawn [0, 1, 2, 3, 4, 5, 6, 7, 8, 9, 10, 11, 12, 13, 14, 15, 16, 17, 18, 19, 20] (by rfl) ?_) ?_
        · have hr := Holds.intro (D := fun z => z = Final1) vF8 rfl
          refine p_run (l := [0, 1, 2, 3, 4, 5, 6, 7, 8, 9]) (pend' := [9, 8, 7, 6, 5, 4, 3, 2, 1, 0]) (by simp (disch := (apply Apart.mk; decide)) only [go_sem, Nat.reduceAdd, Nat.reduceLT, Nat.reduceMul, Nat.reduceLeDiff, Nat.lt_irrefl, Int.reduceToNat, Int.reduceLT, Int.reduceLE, ha0, on_atB hl0, lt_add hl0, lt_at hl0, on_updB hl0, on_atU hl0, on_updU hl0, upd_same ha0]; rfl) rfl ?_
          rcases hr.ite with ⟨cF3, hr⟩ | ⟨cF3, hr⟩
          · obtain ⟨s, eF4, gF5, hr⟩ := hr.idxK
            obtain ⟨nF6, hr⟩ := hr.room
            refine p_run (l := [10, 11, 12, 13, 14, 15]) (pend' := [15, 14, 13, 12, 11, 10, 9, 8, 7, 6, 5, 4, 3, 2, 1, 0]) (by simp (disch := (apply Apart.mk; decide)) only [go_sem, Nat.reduceAdd, Nat.reduceLT, Nat.reduceMul, Nat.reduceLeDiff, Nat.lt_irrefl, Int.reduceToNat, Int.reduceLT, Int.reduceLE, ha0, on_atB hl0, lt_add hl0, lt_at hl0, on_updB hl0, on_atU hl0, on_updU hl0, upd_same ha0, cF3, eF4, gF5, nF6]; rfl) rfl ?_
            refine p_op (pend' := [0]) rfl (by simp (disch := (apply Apart.mk; decide)) only [go_sem, Nat.reduceAdd, Nat.reduceLT, Nat.reduceMul, Nat.reduceLeDiff, Nat.lt_irrefl, Int.reduceToNat, Int.reduceLT, Int.reduceLE, ha0, on_atB hl0, lt_add hl0, lt_at hl0, on_updB hl0, on_atU hl0, on_updU hl0, upd_same ha0, cF3, eF4, gF5, nF6]) (by simp (disch := (apply Apart.mk; decide)) only [go_sem, Nat.reduceAdd, Nat.reduceLT, Nat.reduceMul, Nat.reduceLeDiff, Nat.lt_irrefl, Int.reduceToNat, Int.reduceLT, Int.reduceLE, ha0, on_atB hl0, lt_add hl0, lt_at hl0, on_updB hl0, on_atU hl0, on_updU hl0, upd_same ha0, cF3, eF4, gF5, nF6]; rfl) (by rfl) ?_
            refine p_run (l := [17, 18, 19]) (pend' := [19, 18, 17, 0]) (by simp (disch := (apply Apart.mk; decide)) only [go_sem, Nat.reduceAdd, Nat.reduceLT, Nat.reduceMul, Nat.reduceLeDiff, Nat.lt_irrefl, Int.reduceToNat, Int.reduceLT, Int.reduceLE, ha0, on_atB hl0, lt_add hl0, lt_at hl0, on_updB hl0, on_atU hl0, on_updU hl0, upd_same ha0, cF3, eF4, gF5, nF6]; rfl) rfl ?_
            refine p_op (pend' := []) rfl (by simp (disch := (apply Apart.mk; decide)) only [go_sem, Nat.reduceAdd, Nat.reduceLT, Nat.reduceMul, Nat.reduceLeDiff, Nat.lt_irrefl, Int.reduceToNat, Int.reduceLT, Int.reduceLE, ha0, on_atB hl0, lt_add hl0, lt_at hl0, on_updB hl0, on_atU hl0, on_updU hl0, upd_same ha0, cF3, eF4, gF5, nF6]) (by simp (disch := (apply Apart.mk; decide)) only [go_sem, Nat.reduceAdd, Nat.reduceLT, Nat.reduceMul, Nat.reduceLeDiff, Nat.lt_irrefl, Int.reduceToNat, Int.reduceLT, Int.reduceLE, ha0, on_atB hl0, lt_add hl0, lt_at hl0, on_updB hl0, on_atU hl0, on_updU hl0, upd_same ha0, cF3, eF4, gF5, nF6]; rfl) (by rfl) ?_
            refine p_end (by simp (disch := (apply Apart.mk; decide)) only [go_sem, Nat.reduceAdd, Nat.reduceLT, Nat.reduceMul, Nat.reduceLeDiff, Nat.lt_irrefl, Int.reduceToNat, Int.reduceLT, Int.reduceLE, ha0, on_atB hl0, lt_add hl0, lt_at hl0, on_updB hl0, on_atU hl0, on_updU hl0, upd_same ha0, cF3, eF4, gF5, nF6]) ?_
            obtain rfl : _ = Final1 := hr
            exact w_k (To.cut (h := (h.upd l0 (.cells [.row 4 (List.map eB (Final ++ ([(s == ([] : Str))]))), .row 35 (List.map (eL eEdge) Edges), .row 9 (List.map eS (ends1 ++ ([r])))]))) (WF.upd hwf hl0 (by simp (disch := (apply Apart.mk; decide)) only [go_sem, Nat.reduceAdd, Nat.reduceLT, Nat.reduceMul, Nat.reduceLeDiff, Nat.lt_irrefl, Int.reduceToNat, Int.reduceLT, Int.reduceLE, ha0, on_atB hl0, lt_add hl0, lt_at hl0, on_updB hl0, on_atU hl0, on_updU hl0, upd_same ha0])) (Nat.le_refl _) (by first | rfl | (simp (disch := (apply Apart.mk; decide)) only [go_sem, Nat.reduceAdd, Nat.reduceLT, Nat.reduceMul, Nat.reduceLeDiff, Nat.lt_irrefl, Int.reduceToNat, Int.reduceLT, Int.reduceLE, ha0, on_atB hl0, lt_add hl0, lt_at hl0, on_updB hl0, on_atU hl0, on_updU hl0, upd_same ha0, cF3]; rfl)) (by simp (disch := (apply Apart.mk; decide)) only [go_sem, Nat.reduceAdd, Nat.reduceLT, Nat.reduceMul, Nat.reduceLeDiff, Nat.lt_irrefl, Int.reduceToNat, Int.reduceLT, Int.reduceLE, ha0, on_atB hl0, lt_add hl0, lt_at hl0, on_updB hl0, on_atU hl0, on_updU hl0, upd_same ha0, cF3]))
          · obtain ⟨nF7, hr⟩ := hr.room
            refine p_run (l := [10, 11, 12, 13, 14, 15]) (pend' := [15, 14, 13, 12, 11, 10, 9, 8, 7, 6, 5, 4, 3, 2, 1, 0]) (by simp (disch := (apply Apart.mk; decide)) only [go_sem, Nat.reduceAdd, Nat.reduceLT, Nat.reduceMul, Nat.reduceLeDiff, Nat.lt_irrefl, Int.reduceToNat, Int.reduceLT, Int.reduceLE, ha0, on_atB hl0, lt_add hl0, lt_at hl0, on_updB hl0, on_atU hl0, on_updU hl0, upd_same ha0, cF3, nF7]; rfl) rfl ?_
            refine p_op (pend' := [0]) rfl (by simp (disch := (apply Apart.mk; decide)) only [go_sem, Nat.reduceAdd, Nat.reduceLT, Nat.reduceMul, Nat.reduceLeDiff, Nat.lt_irrefl, Int.reduceToNat, Int.reduceLT, Int.reduceLE, ha0, on_atB hl0, lt_add hl0, lt_at hl0, on_updB hl0, on_atU hl0, on_updU hl0, upd_same ha0, cF3, nF7]) (by simp (disch := (apply Apart.mk; decide)) only [go_sem, Nat.reduceAdd, Nat.reduceLT, Nat.reduceMul, Nat.reduceLeDiff, Nat.lt_irrefl, Int.reduceToNat, Int.reduceLT, Int.reduceLE, ha0, on_atB hl0, lt_add hl0, lt_at hl0, on_updB hl0, on_atU hl0, on_updU hl0, upd_same ha0, cF3, nF7]; rfl) (by rfl) ?_
            refine p_run (l := [17, 18, 19]) (pend' := [19, 18, 17, 0]) (by simp (disch := (apply Apart.mk; decide)) only [go_sem, Nat.reduceAdd, Nat.reduceLT, Nat.reduceMul, Nat.reduceLeDiff, Nat.lt_irrefl, Int.reduceToNat, Int.reduceLT, Int.reduceLE, ha0, on_atB hl0, lt_add hl0, lt_at hl0, on_updB hl0, on_atU hl0, on_updU hl0, upd_same ha0, cF3, nF7]; rfl) rfl ?_
            refine p_op (pend' := []) rfl (by simp (disch := (apply Apart.mk; decide)) only [go_sem, Nat.reduceAdd, Nat.reduceLT, Nat.reduceMul, Nat.reduceLeDiff, Nat.lt_irrefl, Int.reduceToNat, Int.reduceLT, Int.reduceLE, ha0, on_atB hl0, lt_add hl0, lt_at hl0, on_updB hl0, on_atU hl0, on_updU hl0, upd_same ha0, cF3, nF7]) (by simp (disch := (apply Apart.mk; decide)) only [go_sem, Nat.reduceAdd, Nat.reduceLT, Nat.reduceMul, Nat.reduceLeDiff, Nat.lt_irrefl, Int.reduceToNat, Int.reduceLT, Int.reduceLE, ha0, on_atB hl0, lt_add hl0, lt_at hl0, on_updB hl0, on_atU hl0, on_updU hl0, upd_same ha0, cF3, nF7]; rfl) (by rfl) ?_
            refine p_end (by simp (disch := (apply Apart.mk; decide)) only [go_sem, Nat.reduceAdd, Nat.reduceLT, Nat.reduceMul, Nat.reduceLeDiff, Nat.lt_irrefl, Int.reduceToNat, Int.reduceLT, Int.reduceLE, ha0, on_atB hl0, lt_add hl0, lt_at hl0, on_updB hl0, on_atU hl0, on_updU hl0, upd_same ha0, cF3, nF7]) ?_
            obtain rfl : _ = Final1 := hr
            exact w_k (To.cut (h := (h.upd l0 (.cells [.row 4 (List.map eB (Final ++ ([false]))), .row 35 (List.map (eL eEdge) Edges), .row 9 (List.map eS (ends1 ++ ([r])))]))) (WF.upd hwf hl0 (by simp (disch := (apply Apart.mk; decide)) only [go_sem, Nat.reduceAdd, Nat.reduceLT, Nat.reduceMul, Nat.reduceLeDiff, Nat.lt_irrefl, Int.reduceToNat, Int.reduceLT, Int.reduceLE, ha0, on_atB hl0, lt_add hl0, lt_at hl0, on_updB hl0, on_atU hl0, on_updU hl0, upd_same ha0])) (Nat.le_refl _) (by first | rfl | (simp (disch := (apply Apart.mk; decide)) only [go_sem, Nat.reduceAdd, Nat.reduceLT, Nat.reduceMul, Nat.reduceLeDiff, Nat.lt_irrefl, Int.reduceToNat, Int.reduceLT, Int.reduceLE, ha0, on_atB hl0, lt_add hl0, lt_at hl0, on_updB hl0, on_atU hl0, on_updU hl0, upd_same ha0, cF3]; rfl)) (by simp (disch := (apply Apart.mk; decide)) only [go_sem, Nat.reduceAdd, Nat.reduceLT, Nat.reduceMul, Nat.reduceLeDiff, Nat.lt_irrefl, Int.reduceToNat, Int.reduceLT, Int.reduceLE, ha0, on_atB hl0, lt_add hl0, lt_at hl0, on_updB hl0, on_atU hl0, on_updU hl0, upd_same ha0, cF3]))
        refine w_seq ?_
        obtain ⟨nF9, hr⟩ := hr.room
        refine w_region rfl (by simp (disch := (apply Apart.mk; decide)) only [go_sem, Nat.reduceAdd, Nat.reduceLT, Nat.reduceMul, Nat.reduceLeDiff, Nat.lt_irrefl, Int.reduceToNat, Int.reduceLT, Int.reduceLE, ha0, on_atB hl0, lt_add hl0, lt_at hl0, on_updB hl0, on_atU hl0, on_updU hl0, upd_same ha0, nF9]; rfl) ?_
        refine (w_n ?_)
        refine w_seq ?_
        refine w_region rfl (by simp (disch := (apply Apart.mk; decide)) only [go_sem, Nat.reduceAdd, Nat.reduceLT, Nat.reduceMul, Nat.reduceLeDiff, Nat.lt_irrefl, Int.reduceToNat, Int.reduceLT, Int.reduceLE, ha0, on_atB hl0, lt_add hl0, lt_at hl0, on_updB hl0, on_atU hl0, on_updU hl0, upd_same ha0]; rfl) ?_
        refine (w_n ?_)
        refine w_ret ?_
        obtain rfl := hD _ hr
        exact (w_endR (To.cut (os' := []) (sl := [(4, .cv (.val (.int .i64 (IntKind.i64.wrap (((ends1 ++ ([r])).length : Int) - (1 : Int))))))]) (h := (h.upd l0 (.cells [.row 4 (List.map eB Final1), .row 35 (List.map (eL eEdge) (Edges ++ ([edges]))), .row 9 (List.map eS (ends1 ++ ([r])))]))) (WF.upd hwf hl0 (by simp (disch := (apply Apart.mk; decide)) only [go_sem, Nat.reduceAdd, Nat.reduceLT, Nat.reduceMul, Nat.reduceLeDiff, Nat.lt_irrefl, Int.reduceToNat, Int.reduceLT, Int.reduceLE, ha0, on_atB hl0, lt_add hl0, lt_at hl0, on_updB hl0, on_atU hl0, on_updU hl0, upd_same ha0])) (Nat.le_refl _) (by first | rfl | (simp (disch := (apply Apart.mk; decide)) only [go_sem, Nat.reduceAdd, Nat.reduceLT, Nat.reduceMul, Nat.reduceLeDiff, Nat.lt_irrefl, Int.reduceToNat, Int.reduceLT, Int.reduceLE, ha0, on_atB hl0, lt_add hl0, lt_at hl0, on_updB hl0, on_atU hl0, on_updU hl0, upd_same ha0]; rfl)) (by simp (disch := (apply Apart.mk; decide)) only [go_sem, Nat.reduceAdd, Nat.reduceLT, Nat.reduceMul, Nat.reduceLeDiff, Nat.lt_irrefl, Int.reduceToNat, Int.reduceLT, Int.reduceLE, ha0, on_atB hl0, lt_add hl0, lt_at hl0, on_updB hl0, on_atU hl0, on_updU hl0, upd_same ha0])) (by simp (disch := (apply Apart.mk; decide)) only [go_sem, Nat.reduceAdd, Nat.reduceLT, Nat.reduceMul, Nat.reduceLeDiff, Nat.lt_irrefl, Int.reduceToNat, Int.reduceLT, Int.reduceLE, ha0, on_atB hl0, lt_add hl0, lt_at hl0, on_updB hl0, on_atU hl0, on_updU hl0, upd_same ha0, Try.results51, results_data CT_gives51, resCell, resVal.eq_2, loadOp_sv]) ⟨rfl, on_nil (h := (h.upd l0 (.cells [.row 4 (List.map eB Final1), .row 35 (List.map (eL eEdge) (Edges ++ ([edges]))), .row 9 (List.map eS (ends1 ++ ([r])))]))) (WF.upd hwf hl0 (by simp (disch := (apply Apart.mk; decide)) only [go_sem, Nat.reduceAdd, Nat.reduceLT, Nat.reduceMul, Nat.reduceLeDiff, Nat.lt_irrefl, Int.reduceToNat, Int.reduceLT, Int.reduceLE, ha0, on_atB hl0, lt_add hl0, lt_at hl0, on_updB hl0, on_atU hl0, on_updU hl0, upd_same ha0]))⟩)
      · refine w_block ?_
        refine w_Loop (fun xX : (List TEdge × Int × List Bool × List (List TEdge) × List Str) => ⟨[(0, .cv (.val (.ptr (some (l0, 0))))), (1, .cv (.val (.sl (List.map eS ends)))), (5, .cv (.val (.str (bs r)))), (7, .cv (.row 37 (List.map eEdge xX.1))), (8, .cv (.val (.int .i64 xX.2.1)))], (h.upd l0 (.cells [.row 4 (List.map eB xX.2.2.1), .row 35 (List.map (eL eEdge) xX.2.2.2.1), .row 9 (List.map eS xX.2.2.2.2)])).on []⟩) hr (To.cut (h := (h.upd l0 (.cells [.row 4 (List.map eB m.g.Final), .row 35 (List.map (eL eEdge) m.g.Edges), .row 9 (List.map eS m.ends)]))) (WF.upd hwf hl0 (by simp (disch := (apply Apart.mk; decide)) only [go_sem, Nat.reduceAdd, Nat.reduceLT, Nat.reduceMul, Nat.reduceLeDiff, Nat.lt_irrefl, Int.reduceToNat, Int.reduceLT, Int.reduceLE, ha0, on_atB hl0, lt_add hl0, lt_at hl0, on_updB hl0, on_atU hl0, on_updU hl0, upd_same ha0])) (Nat.le_refl _) (by first | rfl | (simp (disch := (apply Apart.mk; decide)) only [go_sem, Nat.reduceAdd, Nat.reduceLT, Nat.reduceMul, Nat.reduceLeDiff, Nat.lt_irrefl, Int.reduceToNat, Int.reduceLT, Int.reduceLE, ha0, on_atB hl0, lt_add hl0, lt_at hl0, on_updB hl0, on_atU hl0, on_updU hl0, upd_same ha0]; rfl)) (by simp (disch := (apply Apart.mk; decide)) only [go_sem, Nat.reduceAdd, Nat.reduceLT, Nat.reduceMul, Nat.reduceLeDiff, Nat.lt_irrefl, Int.reduceToNat, Int.reduceLT, Int.reduceLE, ha0, on_atB hl0, lt_add hl0, lt_at hl0, on_updB hl0, on_atU hl0, on_updU hl0, upd_same ha0])) (fun W1 xX hr => ?_)
        obtain ⟨edges1, c, Final2, Edges1, ends2⟩ := xX
        dsimp only [scansionref17_maker_state.b1] at hr
        refine w_seq ?_
        refine w_seq ?_
        refine w_region rfl (by simp (disch := (apply Apart.mk; decide)) only [go_sem, Nat.reduceAdd, Nat.reduceLT, Nat.reduceMul, Nat.reduceLeDiff, Nat.lt_irrefl, Int.reduceToNat, Int.reduceLT, Int.reduceLE, ha0, on_atB hl0, lt_add hl0, lt_at hl0, on_updB hl0, on_atU hl0, on_updU hl0, upd_same ha0]; rfl) ?_
        refine (w_n ?_)
        refine w_condH (by simp (disch := (apply Apart.mk; decide)) only [go_sem, Nat.reduceAdd, Nat.reduceLT, Nat.reduceMul, Nat.reduceLeDiff, Nat.lt_irrefl, Int.reduceToNat, Int.reduceLT, Int.reduceLE, ha0, on_atB hl0, lt_add hl0, lt_at hl0, on_updB hl0, on_atU hl0, on_updU hl0, upd_same ha0]) hr (fun cF10 hr => ?_) (fun cF10 hr => ?_)
        · refine w_skip ?_
          refine (w_n ?_)
          refine w_seq ?_
          refine w_K (D := (Aft W1 D)) (fun xX : (List TEdge × List Bool × List (List TEdge) × List Str) => ⟨[(0, .cv (.val (.ptr (some (l0, 0))))), (1, .cv (.val (.sl (List.map eS ends)))), (5, .cv (.val (.str (bs r)))), (7, .cv (.row 37 (List.map eEdge xX.1))), (8, .cv (.val (.int .i64 c)))], (h.upd l0 (.cells [.row 4 (List.map eB xX.2.1), .row 35 (List.map (eL eEdge) xX.2.2.1), .row 9 (List.map eS xX.2.2.2)])).on []⟩) (fun xX : (List TEdge × List Bool × List (List TEdge) × List Str) => scansionref17_maker_state.k3 c xX.1 xX.2.1 xX.2.2.1 xX.2.2.2) (fun xX s' hr ht => ?_) ?_
          · obtain ⟨edges2, Final3, Edges2, ends3⟩ := xX
            dsimp only [scansionref17_maker_state.k3] at hr ht
            refine (w_nT ht ?_)
            refine w_region rfl (by simp (disch := (apply Apart.mk; decide)) only [go_sem, Nat.reduceAdd, Nat.reduceLT, Nat.reduceMul, Nat.reduceLeDiff, Nat.lt_irrefl, Int.reduceToNat, Int.reduceLT, Int.reduceLE, ha0, on_atB hl0, lt_add hl0, lt_at hl0, on_updB hl0, on_atU hl0, on_updU hl0, upd_same ha0, cF10]; rfl) ?_
            exact (w_k ⟨(edges2, (IntKind.i64.wrap (c + (1 : Int))), Final3, Edges2, ends3), hr, (To.cut (h := (h.upd l0 (.cells [.row 4 (List.map eB Final3), .row 35 (List.map (eL eEdge) Edges2), .row 9 (List.map eS ends3)]))) (WF.upd hwf hl0 (by simp (disch := (apply Apart.mk; decide)) only [go_sem, Nat.reduceAdd, Nat.reduceLT, Nat.reduceMul, Nat.reduceLeDiff, Nat.lt_irrefl, Int.reduceToNat, Int.reduceLT, Int.reduceLE, ha0, on_atB hl0, lt_add hl0, lt_at hl0, on_updB hl0, on_atU hl0, on_updU hl0, upd_same ha0])) (Nat.le_refl _) (by first | rfl | (simp (disch := (apply Apart.mk; decide)) only [go_sem, Nat.reduceAdd, Nat.reduceLT, Nat.reduceMul, Nat.reduceLeDiff, Nat.lt_irrefl, Int.reduceToNat, Int.reduceLT, Int.reduceLE, ha0, on_atB hl0, lt_add hl0, lt_at hl0, on_updB hl0, on_atU hl0, on_updU hl0, upd_same ha0, cF10]; rfl)) (by simp (disch := (apply Apart.mk; decide)) only [go_sem, Nat.reduceAdd, Nat.reduceLT, Nat.reduceMul, Nat.reduceLeDiff, Nat.lt_irrefl, Int.reduceToNat, Int.reduceLT, Int.reduceLE, ha0, on_atB hl0, lt_add hl0, lt_at hl0, on_updB hl0, on_atU hl0, on_updU hl0, upd_same ha0, cF10]))⟩)
          · refine w_block ?_
            refine w_seq ?_
            refine w_ops rfl ?_
            refine w_upto 3 rfl (by simp (disch := (apply Apart.mk; decide)) only [go_sem, Nat.reduceAdd, Nat.reduceLT, Nat.reduceMul, Nat.reduceLeDiff, Nat.lt_irrefl, Int.reduceToNat, Int.reduceLT, Int.reduceLE, ha0, on_atB hl0, lt_add hl0, lt_at hl0, on_updB hl0, on_atU hl0, on_updU hl0, upd_same ha0]; rfl) ?_
            obtain ⟨r1, eF11, hr⟩ := hr.bind
            refine w_call' (out := ?o_eF11) (hp := ?p_eF11) rfl (by simp (disch := (apply Apart.mk; decide)) only [go_sem, Nat.reduceAdd, Nat.reduceLT, Nat.reduceMul, Nat.reduceLeDiff, Nat.lt_irrefl, Int.reduceToNat, Int.reduceLT, Int.reduceLE, ha0, on_atB hl0, lt_add hl0, lt_at hl0, on_updB hl0, on_atU hl0, on_updU hl0, upd_same ha0, Option.getD_some]; rfl) (by simp (disch := (apply Apart.mk; decide)) only [go_sem, Nat.reduceAdd, Nat.reduceLT, Nat.reduceMul, Nat.reduceLeDiff, Nat.lt_irrefl, Int.reduceToNat, Int.reduceLT, Int.reduceLE, ha0, on_atB hl0, lt_add hl0, lt_at hl0, on_updB hl0, on_atU hl0, on_updU hl0, upd_same ha0, Option.getD_some]; rfl) (by simp (disch := (apply Apart.mk; decide)) only [go_sem, Nat.reduceAdd, Nat.reduceLT, Nat.reduceMul, Nat.reduceLeDiff, Nat.lt_irrefl, Int.reduceToNat, Int.reduceLT, Int.reduceLE, ha0, on_atB hl0, lt_add hl0, lt_at hl0, on_updB hl0, on_atU hl0, on_updU hl0, upd_same ha0, Option.getD_some]; rfl) ?c_eF11 ?d_eF11 ?_
            case c_eF11 => (rw [show ((IntKind.u8.wrap c) : Int) = ((u8 (IntKind.u8.wrap c)).toNat : Int) from u8_wrap.symm]; exact scansionref17_behind_runs ends (u8 (IntKind.u8.wrap c)) eF11)
            case d_eF11 => rfl
            refine w_ops_end (by simp (disch := (apply Apart.mk; decide)) only [go_sem, Nat.reduceAdd, Nat.reduceLT, Nat.reduceMul, Nat.reduceLeDiff, Nat.lt_irrefl, Int.reduceToNat, Int.reduceLT, Int.reduceLE, ha0, on_atB hl0, lt_add hl0, lt_at hl0, on_updB hl0, on_atU hl0, on_updU hl0, upd_same ha0]; rfl) ?_
            refine (w_n ?_)
            refine w_seq ?_
            refine w_region rfl (by simp (disch := (apply Apart.mk; decide)) only [go_sem, Nat.reduceAdd, Nat.reduceLT, Nat.reduceMul, Nat.reduceLeDiff, Nat.lt_irrefl, Int.reduceToNat, Int.reduceLT, Int.reduceLE, ha0, on_atB hl0, lt_add hl0, lt_at hl0, on_updB hl0, on_atU hl0, on_updU hl0, upd_same ha0, cF10]; rfl) ?_
            refine (w_n ?_)
            refine w_condH (by simp (disch := (apply Apart.mk; decide)) only [go_sem, Nat.reduceAdd, Nat.reduceLT, Nat.reduceMul, Nat.reduceLeDiff, Nat.lt_irrefl, Int.reduceToNat, Int.reduceLT, Int.reduceLE, ha0, on_atB hl0, lt_add hl0, lt_at hl0, on_updB hl0, on_atU hl0, on_updU hl0, upd_same ha0, cF10]) hr (fun cF12 hr => ?_) (fun cF12 hr => ?_)
            · refine w_ops rfl ?_
              refine w_upto 5 rfl (by simp (disch := (apply Apart.mk; decide)) only [go_sem, Nat.reduceAdd, Nat.reduceLT, Nat.reduceMul, Nat.reduceLeDiff, Nat.lt_irrefl, Int.reduceToNat, Int.reduceLT, Int.reduceLE, ha0, on_atB hl0, lt_add hl0, lt_at hl0, on_updB hl0, on_atU hl0, on_updU hl0, upd_same ha0]; rfl) ?_
              obtain ⟨r2, eF13, hr⟩ := hr.bind
              refine w_call' (out := ?o_eF13) (hp := ?p_eF13) rfl (by simp (disch := (apply Apart.mk; decide)) only [go_sem, Nat.reduceAdd, Nat.reduceLT, Nat.reduceMul, Nat.reduceLeDiff, Nat.lt_irrefl, Int.reduceToNat, Int.reduceLT, Int.reduceLE, ha0, on_atB hl0, lt_add hl0, lt_at hl0, on_updB hl0, on_atU hl0, on_updU hl0, upd_same ha0, Option.getD_some]; rfl) (by simp (disch := (apply Apart.mk; decide)) only [go_sem, Nat.reduceAdd, Nat.reduceLT, Nat.reduceMul, Nat.reduceLeDiff, Nat.lt_irrefl, Int.reduceToNat, Int.reduceLT, Int.reduceLE, ha0, on_atB hl0, lt_add hl0, lt_at hl0, on_updB hl0, on_atU hl0, on_updU hl0, upd_same ha0, Option.getD_some]; rfl) (by simp (disch := (apply Apart.mk; decide)) only [go_sem, Nat.reduceAdd, Nat.reduceLT, Nat.reduceMul, Nat.reduceLeDiff, Nat.lt_irrefl, Int.reduceToNat, Int.reduceLT, Int.reduceLE, ha0, on_atB hl0, lt_add hl0, lt_at hl0, on_updB hl0, on_atU hl0, on_updU hl0, upd_same ha0, Option.getD_some]; rfl) ?c_eF13 ?d_eF13 ?_
              case c_eF13 => (refine ih (Tscansionref17_maker.mk (TGraph.mk Final2 Edges1) ends2) r1 (l0) ?_ eF13; (simp (disch := (apply Apart.mk; decide)) only [go_sem, Nat.reduceAdd, Nat.reduceLT, Nat.reduceMul, Nat.reduceLeDiff, Nat.lt_irrefl, Int.reduceToNat, Int.reduceLT, Int.reduceLE, ha0, on_atB hl0, lt_add hl0, lt_at hl0, on_updB hl0, on_atU hl0, on_updU hl0, upd_same ha0]))
              case d_eF13 => rfl
              obtain ⟨nF14, hr⟩ := hr.room
              refine w_ops_end (by simp (disch := (apply Apart.mk; decide)) only [go_sem, Nat.reduceAdd, Nat.reduceLT, Nat.reduceMul, Nat.reduceLeDiff, Nat.lt_irrefl, Int.reduceToNat, Int.reduceLT, Int.reduceLE, ha0, on_atB hl0, lt_add hl0, lt_at hl0, on_updB hl0, on_atU hl0, on_updU hl0, upd_same ha0, nF14]; rfl) ?_
              exact (w_bn (w_k ⟨((edges1 ++ ([(TEdge.mk (u8 (IntKind.u8.wrap c)) r2.1)])), r2.2.g.Final, r2.2.g.Edges, r2.2.ends), hr, (To.cut (h := (h.upd l0 (.cells [.row 4 (List.map eB r2.2.g.Final), .row 35 (List.map (eL eEdge) r2.2.g.Edges), .row 9 (List.map eS r2.2.ends)]))) (WF.upd hwf hl0 (by simp (disch := (apply Apart.mk; decide)) only [go_sem, Nat.reduceAdd, Nat.reduceLT, Nat.reduceMul, Nat.reduceLeDiff, Nat.lt_irrefl, Int.reduceToNat, Int.reduceLT, Int.reduceLE, ha0, on_atB hl0, lt_add hl0, lt_at hl0, on_updB hl0, on_atU hl0, on_updU hl0, upd_same ha0])) (Nat.le_refl _) (by first | rfl | (simp (disch := (apply Apart.mk; decide)) only [go_sem, Nat.reduceAdd, Nat.reduceLT, Nat.reduceMul, Nat.reduceLeDiff, Nat.lt_irrefl, Int.reduceToNat, Int.reduceLT, Int.reduceLE, ha0, on_atB hl0, lt_add hl0, lt_at hl0, on_updB hl0, on_atU hl0, on_updU hl0, upd_same ha0, cF10, cF12]; rfl)) (by simp (disch := (apply Apart.mk; decide)) only [go_sem, Nat.reduceAdd, Nat.reduceLT, Nat.reduceMul, Nat.reduceLeDiff, Nat.lt_irrefl, Int.reduceToNat, Int.reduceLT, Int.reduceLE, ha0, on_atB hl0, lt_add hl0, lt_at hl0, on_updB hl0, on_atU hl0, on_updU hl0, upd_same ha0, cF10, cF12]))⟩))
            · refine w_skip ?_
              exact (w_bn (w_k ⟨(edges1, Final2, Edges1, ends2), hr, (To.cut (h := (h.upd l0 (.cells [.row 4 (List.map eB Final2), .row 35 (List.map (eL eEdge) Edges1), .row 9 (List.map eS ends2)]))) (WF.upd hwf hl0 (by simp (disch := (apply Apart.mk; decide)) only [go_sem, Nat.reduceAdd, Nat.reduceLT, Nat.reduceMul, Nat.reduceLeDiff, Nat.lt_irrefl, Int.reduceToNat, Int.reduceLT, Int.reduceLE, ha0, on_atB hl0, lt_add hl0, lt_at hl0, on_updB hl0, on_atU hl0, on_updU hl0, upd_same ha0])) (Nat.le_refl _) (by first | rfl | (simp (disch := (apply Apart.mk; decide)) only [go_sem, Nat.reduceAdd, Nat.reduceLT, Nat.reduceMul, Nat.reduceLeDiff, Nat.lt_irrefl, Int.reduceToNat, Int.reduceLT, Int.reduceLE, ha0, on_atB hl0, lt_add hl0, lt_at hl0, on_updB hl0, on_atU hl0, on_updU hl0, upd_same ha0, cF10, cF12]; rfl)) (by simp (disch := (apply Apart.mk; decide)) only [go_sem, Nat.reduceAdd, Nat.reduceLT, Nat.reduceMul, Nat.reduceLeDiff, Nat.lt_irrefl, Int.reduceToNat, Int.reduceLT, Int.reduceLE, ha0, on_atB hl0, lt_add hl0, lt_at hl0, on_updB hl0, on_atU hl0, on_updU hl0, upd_same ha0, cF10, cF12]))⟩))
        · refine w_exit ?_
          exact (w_te (w_te (w_bx (w_k ⟨(edges1, Final2, Edges1, ends2), (hr).map, (To.cut (h := (h.upd l0 (.cells [.row 4 (List.map eB Final2), .row 35 (List.map (eL eEdge) Edges1), .row 9 (List.map eS ends2)]))) (WF.upd hwf hl0 (by simp (disch := (apply Apart.mk; decide)) only [go_sem, Nat.reduceAdd, Nat.reduceLT, Nat.reduceMul, Nat.reduceLeDiff, Nat.lt_irrefl, Int.reduceToNat, Int.reduceLT, Int.reduceLE, ha0, on_atB hl0, lt_add hl0, lt_at hl0, on_updB hl0, on_atU hl0, on_updU hl0, upd_same ha0])) (Nat.le_refl _) (by first | rfl | (simp (disch := (apply Apart.mk; decide)) only [go_sem, Nat.reduceAdd, Nat.reduceLT, Nat.reduceMul, Nat.reduceLeDiff, Nat.lt_irrefl, Int.reduceToNat, Int.reduceLT, Int.reduceLE, ha0, on_atB hl0, lt_add hl0, lt_at hl0, on_updB hl0, on_atU hl0, on_updU hl0, upd_same ha0, cF10]; rfl)) (by simp (disch := (apply Apart.mk; decide)) only [go_sem, Nat.reduceAdd, Nat.reduceLT, Nat.reduceMul, Nat.reduceLeDiff, Nat.lt_irrefl, Int.reduceToNat, Int.reduceLT, Int.reduceLE, ha0, on_atB hl0, lt_add hl0, lt_at hl0, on_updB hl0, on_atU hl0, on_updU hl0, upd_same ha0, cF10]))⟩))))
    · refine w_block ?_
      refine w_Loop (fun xX : Int => ⟨[(0, .cv (.val (.ptr (some (l0, 0))))), (1, .cv (.val (.sl (List.map eS ends)))), (5, .cv (.val (.str (bs r)))), (6, .cv (.val (.int .i64 xX)))], h.on []⟩) hr (To.cut hwf (Nat.le_refl _) (by first | rfl | (simp (disch := (apply Apart.mk; decide)) only [go_sem, Nat.reduceAdd, Nat.reduceLT, Nat.reduceMul, Nat.reduceLeDiff, Nat.lt_irrefl, Int.reduceToNat, Int.reduceLT, Int.reduceLE, ha0, on_atB hl0, lt_add hl0, lt_at hl0, on_updB hl0, on_atU hl0, on_updU hl0, upd_same ha0]; rfl)) (by simp (disch := (apply Apart.mk; decide)) only [go_sem, Nat.reduceAdd, Nat.reduceLT, Nat.reduceMul, Nat.reduceLeDiff, Nat.lt_irrefl, Int.reduceToNat, Int.reduceLT, Int.reduceLE, ha0, on_atB hl0, lt_add hl0, lt_at hl0, on_updB hl0, on_atU hl0, on_updU hl0, upd_same ha0])) (fun W2 xX hr => ?_)
      obtain ⟨i, rfl⟩ : ∃ z, z = xX := ⟨xX, rfl⟩
      dsimp only [scansionref17_maker_state.b2] at hr
      refine w_seq ?_
      refine w_seq ?_
      refine w_region rfl (by simp (disch := (apply Apart.mk; decide)) only [go_sem, Nat.reduceAdd, Nat.reduceLT, Nat.reduceMul, Nat.reduceLeDiff, Nat.lt_irrefl, Int.reduceToNat, Int.reduceLT, Int.reduceLE, ha0, on_atB hl0, lt_add hl0, lt_at hl0, on_updB hl0, on_atU hl0, on_updU hl0, upd_same ha0]; rfl) ?_
      refine (w_n ?_)
      refine w_condH (by simp (disch := (apply Apart.mk; decide)) only [go_sem, Nat.reduceAdd, Nat.reduceLT, Nat.reduceMul, Nat.reduceLeDiff, Nat.lt_irrefl, Int.reduceToNat, Int.reduceLT, Int.reduceLE, ha0, on_atB hl0, lt_add hl0, lt_at hl0, on_updB hl0, on_atU hl0, on_updU hl0, upd_same ha0]) hr (fun cF15 hr => ?_) (fun cF15 hr => ?_)
      · refine w_skip ?_
        refine (w_n ?_)
        refine w_seq ?_
        refine w_block ?_
        refine w_seq ?_
        obtain ⟨s1, nF16, eF17, gF18, hr⟩ := hr.idx
        refine w_region rfl (by simp (disch := (apply Apart.mk; decide)) only [go_sem, Nat.reduceAdd, Nat.reduceLT, Nat.reduceMul, Nat.reduceLeDiff, Nat.lt_irrefl, Int.reduceToNat, Int.reduceLT, Int.reduceLE, ha0, on_atB hl0, lt_add hl0, lt_at hl0, on_updB hl0, on_atU hl0, on_updU hl0, upd_same ha0, nF16, eF17, gF18, cF15]; rfl) ?_
        refine (w_n ?_)
        refine w_condH (by simp (disch := (apply Apart.mk; decide)) only [go_sem, Nat.reduceAdd, Nat.reduceLT, Nat.reduceMul, Nat.reduceLeDiff, Nat.lt_irrefl, Int.reduceToNat, Int.reduceLT, Int.reduceLE, ha0, on_atB hl0, lt_add hl0, lt_at hl0, on_updB hl0, on_atU hl0, on_updU hl0, upd_same ha0, cF15]) hr (fun cF19 hr => ?_) (fun cF19 hr => ?_)
        · refine w_seq ?_
          refine w_region rfl (by simp (disch := (apply Apart.mk; decide)) only [go_sem, Nat.reduceAdd, Nat.reduceLT, Nat.reduceMul, Nat.reduceLeDiff, Nat.lt_irrefl, Int.reduceToNat, Int.reduceLT, Int.reduceLE, ha0, on_atB hl0, lt_add hl0, lt_at hl0, on_updB hl0, on_atU hl0, on_updU hl0, upd_same ha0, cF15, cF19]; rfl) ?_
          refine (w_n ?_)
          refine w_ret ?_
          obtain rfl := hD _ hr
          exact (w_br (w_tr (w_tr (w_br (w_tr (w_tr (w_endR (To.cut (os' := []) (sl := [(4, .cv (.val (.int .i64 i)))]) (h := (h.upd l0 (.cells [.row 4 (List.map eB m.g.Final), .row 35 (List.map (eL eEdge) m.g.Edges), .row 9 (List.map eS m.ends)]))) (WF.upd hwf hl0 (by simp (disch := (apply Apart.mk; decide)) only [go_sem, Nat.reduceAdd, Nat.reduceLT, Nat.reduceMul, Nat.reduceLeDiff, Nat.lt_irrefl, Int.reduceToNat, Int.reduceLT, Int.reduceLE, ha0, on_atB hl0, lt_add hl0, lt_at hl0, on_updB hl0, on_atU hl0, on_updU hl0, upd_same ha0])) (Nat.le_refl _) (by first | rfl | (simp (disch := (apply Apart.mk; decide)) only [go_sem, Nat.reduceAdd, Nat.reduceLT, Nat.reduceMul, Nat.reduceLeDiff, Nat.lt_irrefl, Int.reduceToNat, Int.reduceLT, Int.reduceLE, ha0, on_atB hl0, lt_add hl0, lt_at hl0, on_updB hl0, on_atU hl0, on_updU hl0, upd_same ha0, cF15, cF19]; rfl)) (by simp (disch := (apply Apart.mk; decide)) only [go_sem, Nat.reduceAdd, Nat.reduceLT, Nat.reduceMul, Nat.reduceLeDiff, Nat.lt_irrefl, Int.reduceToNat, Int.reduceLT, Int.reduceLE, ha0, on_atB hl0, lt_add hl0, lt_at hl0, on_updB hl0, on_atU hl0, on_updU hl0, upd_same ha0, cF15, cF19])) (by simp (disch := (apply Apart.mk; decide)) only [go_sem, Nat.reduceAdd, Nat.reduceLT, Nat.reduceMul, Nat.reduceLeDiff, Nat.lt_irrefl, Int.reduceToNat, Int.reduceLT, Int.reduceLE, ha0, on_atB hl0, lt_add hl0, lt_at hl0, on_updB hl0, on_atU hl0, on_updU hl0, upd_same ha0, Try.results51, results_data CT_gives51, resCell, resVal.eq_2, loadOp_sv, cF15, cF19]) ⟨rfl, on_nil (h := (h.upd l0 (.cells [.row 4 (List.map eB m.g.Final), .row 35 (List.map (eL eEdge) m.g.Edges), .row 9 (List.map eS m.ends)]))) (WF.upd hwf hl0 (by simp (disch := (apply Apart.mk; decide)) only [go_sem, Nat.reduceAdd, Nat.reduceLT, Nat.reduceMul, Nat.reduceLeDiff, Nat.lt_irrefl, Int.reduceToNat, Int.reduceLT, Int.reduceLE, ha0, on_atB hl0, lt_add hl0, lt_at hl0, on_updB hl0, on_atU hl0, on_updU hl0, upd_same ha0]))⟩)))))))
        · refine w_skip ?_
          refine (w_bn (w_n ?_))
          refine w_region rfl (by simp (disch := (apply Apart.mk; decide)) only [go_sem, Nat.reduceAdd, Nat.reduceLT, Nat.reduceMul, Nat.reduceLeDiff, Nat.lt_irrefl, Int.reduceToNat, Int.reduceLT, Int.reduceLE, ha0, on_atB hl0, lt_add hl0, lt_at hl0, on_updB hl0, on_atU hl0, on_updU hl0, upd_same ha0, cF15, cF19]; rfl) ?_
          exact (w_k ⟨(IntKind.i64.wrap (i + (1 : Int))), hr, (To.cut hwf (Nat.le_refl _) (by first | rfl | (simp (disch := (apply Apart.mk; decide)) only [go_sem, Nat.reduceAdd, Nat.reduceLT, Nat.reduceMul, Nat.reduceLeDiff, Nat.lt_irrefl, Int.reduceToNat, Int.reduceLT, Int.reduceLE, ha0, on_atB hl0, lt_add hl0, lt_at hl0, on_updB hl0, on_atU hl0, on_updU hl0, upd_same ha0, cF15, cF19]; rfl)) (by simp (disch := (apply Apart.mk; decide)) only [go_sem, Nat.reduceAdd, Nat.reduceLT, Nat.reduceMul, Nat.reduceLeDiff, Nat.lt_irrefl, Int.reduceToNat, Int.reduceLT, Int.reduceLE, ha0, on_atB hl0, lt_add hl0, lt_at hl0, on_updB hl0, on_atU hl0, on_updU hl0, upd_same ha0, cF15, cF19]))⟩)
      · refine w_exit ?_
        exact (w_te (w_te (w_bx (w_k ⟨(), (hr).map, (To.cut hwf (Nat.le_refl _) (by first | rfl | (simp (disch := (apply Apart.mk; decide)) only [go_sem, Nat.reduceAdd, Nat.reduceLT, Nat.reduceMul, Nat.reduceLeDiff, Nat.lt_irrefl, Int.reduceToNat, Int.reduceLT, Int.reduceLE, ha0, on_atB hl0, lt_add hl0, lt_at hl0, on_updB hl0, on_atU hl0, on_updU hl0, upd_same ha0, cF15]; rfl)) (by simp (disch := (apply Apart.mk; decide)) only [go_sem, Nat.reduceAdd, Nat.reduceLT, Nat.reduceMul, Nat.reduceLeDiff, Nat.lt_irrefl, Int.reduceToNat, Int.reduceLT, Int.reduceLE, ha0, on_atB hl0, lt_add hl0, lt_at hl0, on_updB hl0, on_atU hl0, on_updU hl0, upd_same ha0, cF15]))⟩))))
theorem scansionref17_maker_state_runs (m : Tscansionref17_maker) (ends : List Str) (l0 : Nat) {h : Heap} (ha0 : h.at_ l0 = some (.cells [.row 4 (List.map eB m.g.Final), .row 35 (List.map (eL eEdge) m.g.Edges), .row 9 (List.map eS m.ends)])) {a : (Int × Tscansionref17_maker)} (e : scansionref17_maker_state m ends = some a) :
    Runs CT 51 [.cv (.val (.ptr (some (l0, 0)))), .cv (.val (.sl (List.map eS ends)))] h fun o h' => o = [.cv (.val (.int .i64 a.1))] ∧ h' = (h.upd l0 (.cells [.row 4 (List.map eB a.2.g.Final), .row 35 (List.map (eL eEdge) a.2.g.Edges), .row 9 (List.map eS a.2.ends)])) := by
  obtain ⟨n, hn⟩ := lim_some e
  exact scansionref17_maker_state_runs_r n m ends l0 ha0 (hn n (Nat.le_refl n))
end Go.Val

/- part GW17 -/
/- scansion/scansionref17.Build runs as it is read off. -/
namespace Go.Val
set_option linter.unusedVariables false
set_option linter.unusedSimpArgs false
set_option maxRecDepth 20000
open Go.Proofs
theorem scansionref17_Build_runs (words : List Str) {h : Heap} {a : (TGraph × Int)} (e : scansionref17_Build words = some a) :
    Runs CT 17 [.cv (.val (.sl (List.map eS words)))] h fun o h' => o = [.cv (.val (.agg [.sl (List.map eB a.1.Final), .sl (List.map (eL eEdge) a.1.Edges)])), .cv (.val (.int .i64 a.2))] ∧ h' = h := by
  refine Runs.start Try.f17 _ Try.func17 rfl (by rw [Try.ntmps17]; simp) (by rfl) (by rfl) (fun hwf hu => ?_)
  obtain ⟨D, hD, hr⟩ : ∃ D : (TGraph × Int) → Prop, (∀ z, D z → z = a) ∧ Holds (scansionref17_Build words) D := ⟨fun z => z = a, fun _ h => h, Holds.intro e rfl⟩
  dsimp only [scansionref17_Build] at hr
  change wpCode _ _ _ _ _ ⟨[(0, .cv (.val (.sl (List.map eS words))))], h.on []⟩
  refine w_seq ?_
  refine w_region rfl (by simp (disch := (apply Apart.mk; decide)) only [go_sem, Nat.reduceAdd, Nat.reduceLT, Nat.reduceMul, Nat.reduceLeDiff, Nat.lt_irrefl, Int.reduceToNat, Int.reduceLT, Int.reduceLE]; rfl) ?_
  refine (w_n ?_)
  refine w_seq ?_
  refine w_ops rfl ?_
  refine w_upto 1 rfl (by simp (disch := (apply Apart.mk; decide)) only [go_sem, Nat.reduceAdd, Nat.reduceLT, Nat.reduceMul, Nat.reduceLeDiff, Nat.lt_irrefl, Int.reduceToNat, Int.reduceLT, Int.reduceLE]; rfl) ?_
  obtain ⟨r, eF1, hr⟩ := hr.bind
  refine w_call' (out := ?o_eF1) (hp := ?p_eF1) rfl (by simp (disch := (apply Apart.mk; decide)) only [go_sem, Nat.reduceAdd, Nat.reduceLT, Nat.reduceMul, Nat.reduceLeDiff, Nat.lt_irrefl, Int.reduceToNat, Int.reduceLT, Int.reduceLE, Option.getD_some]; rfl) (by simp (disch := (apply Apart.mk; decide)) only [go_sem, Nat.reduceAdd, Nat.reduceLT, Nat.reduceMul, Nat.reduceLeDiff, Nat.lt_irrefl, Int.reduceToNat, Int.reduceLT, Int.reduceLE, Option.getD_some]; rfl) (by simp (disch := (apply Apart.mk; decide)) only [go_sem, Nat.reduceAdd, Nat.reduceLT, Nat.reduceMul, Nat.reduceLeDiff, Nat.lt_irrefl, Int.reduceToNat, Int.reduceLT, Int.reduceLE, Option.getD_some]; rfl) ?c_eF1 ?d_eF1 ?_
  case c_eF1 => exact scansionref17_right_runs words eF1
  case d_eF1 => rfl
  refine w_ops_end (by simp (disch := (apply Apart.mk; decide)) only [go_sem, Nat.reduceAdd, Nat.reduceLT, Nat.reduceMul, Nat.reduceLeDiff, Nat.lt_irrefl, Int.reduceToNat, Int.reduceLT, Int.reduceLE]; rfl) ?_
  refine (w_n ?_)
  refine w_seq ?_
  refine w_seq ?_
  refine w_region rfl (by simp (disch := (apply Apart.mk; decide)) only [go_sem, Nat.reduceAdd, Nat.reduceLT, Nat.reduceMul, Nat.reduceLeDiff, Nat.lt_irrefl, Int.reduceToNat, Int.reduceLT, Int.reduceLE]; rfl) ?_
  refine (w_n ?_)
  refine w_condH (by simp (disch := (apply Apart.mk; decide)) only [go_sem, Nat.reduceAdd, Nat.reduceLT, Nat.reduceMul, Nat.reduceLeDiff, Nat.lt_irrefl, Int.reduceToNat, Int.reduceLT, Int.reduceLE]) hr (fun cF2 hr => ?_) (fun cF2 hr => ?_)
  · refine w_seq ?_
    refine w_region rfl (by simp (disch := (apply Apart.mk; decide)) only [go_sem, Nat.reduceAdd, Nat.reduceLT, Nat.reduceMul, Nat.reduceLeDiff, Nat.lt_irrefl, Int.reduceToNat, Int.reduceLT, Int.reduceLE, cF2]; rfl) ?_
    refine (w_n ?_)
    refine w_ret ?_
    obtain rfl := hD _ hr
    exact (w_tr (w_endRD (To.cut (os' := [some (.cells [.val (.sl (List.map eB ([] : List Bool))), .val (.sl (List.map (eL eEdge) ([] : List (List TEdge))))])]) (sl := [(2, .cv (.val (.ptr (some (h.n + 0, 0))))), (3, .cv (.val (.int .i64 (1 : Int))))]) hwf (Nat.le_refl _) rfl (by simp (disch := (apply Apart.mk; decide)) only [go_sem, Nat.reduceAdd, Nat.reduceLT, Nat.reduceMul, Nat.reduceLeDiff, Nat.lt_irrefl, Int.reduceToNat, Int.reduceLT, Int.reduceLE, cF2])) (by simp (disch := (apply Apart.mk; decide)) only [go_sem, Nat.reduceAdd, Nat.reduceLT, Nat.reduceMul, Nat.reduceLeDiff, Nat.lt_irrefl, Int.reduceToNat, Int.reduceLT, Int.reduceLE, Try.results17, results_data CT_gives17, resCell, resVal.eq_2, loadOp_sv, cF2]) (Drops.on (os := [some (.cells [.val (.sl (List.map eB ([] : List Bool))), .val (.sl (List.map (eL eEdge) ([] : List (List TEdge))))])]) (os' := []) hwf (Nat.le_refl _) (by simp (disch := (apply Apart.mk; decide)) only [go_sem, Nat.reduceAdd, Nat.reduceLT, Nat.reduceMul, Nat.reduceLeDiff, Nat.lt_irrefl, Int.reduceToNat, Int.reduceLT, Int.reduceLE, cF2])) ⟨rfl, on_nil hwf⟩))
  · refine w_skip ?_
    refine (w_n ?_)
    refine w_seq ?_
    refine w_region rfl (by simp (disch := (apply Apart.mk; decide)) only [go_sem, Nat.reduceAdd, Nat.reduceLT, Nat.reduceMul, Nat.reduceLeDiff, Nat.lt_irrefl, Int.reduceToNat, Int.reduceLT, Int.reduceLE, cF2]; rfl) ?_
    refine (w_n ?_)
    refine w_seq ?_
    refine w_toR (s1 := ⟨[(0, .cv (.val (.sl (List.map eS words)))), (2, .cv (.val (.ptr (some (h.n + 0, 0))))), (5, .cv (.val (.ptr (some (h.n + 1, 0)))))], h.on [some (.cells [.nil, .nil]), some (.cells [.row 4 (List.map eB []), .row 35 (List.map (eL eEdge) []), .row 9 (List.map eS [])])]⟩) (To.cut hwf (Nat.le_refl _) rfl (by simp (disch := (apply Apart.mk; decide)) only [go_sem, Nat.reduceAdd, Nat.reduceLT, Nat.reduceMul, Nat.reduceLeDiff, Nat.lt_irrefl, Int.reduceToNat, Int.reduceLT, Int.reduceLE, cF2])) ?_
    refine w_ops rfl ?_
    refine w_upto 2 rfl (by simp (disch := (apply Apart.mk; decide)) only [go_sem, Nat.reduceAdd, Nat.reduceLT, Nat.reduceMul, Nat.reduceLeDiff, Nat.lt_irrefl, Int.reduceToNat, Int.reduceLT, Int.reduceLE]; rfl) ?_
    obtain ⟨r1, eF3, hr⟩ := hr.bind
    refine w_call' (out := ?o_eF3) (hp := ?p_eF3) rfl (by simp (disch := (apply Apart.mk; decide)) only [go_sem, Nat.reduceAdd, Nat.reduceLT, Nat.reduceMul, Nat.reduceLeDiff, Nat.lt_irrefl, Int.reduceToNat, Int.reduceLT, Int.reduceLE, Option.getD_some]; rfl) (by simp (disch := (apply Apart.mk; decide)) only [go_sem, Nat.reduceAdd, Nat.reduceLT, Nat.reduceMul, Nat.reduceLeDiff, Nat.lt_irrefl, Int.reduceToNat, Int.reduceLT, Int.reduceLE, Option.getD_some]; rfl) (by simp (disch := (apply Apart.mk; decide)) only [go_sem, Nat.reduceAdd, Nat.reduceLT, Nat.reduceMul, Nat.reduceLeDiff, Nat.lt_irrefl, Int.reduceToNat, Int.reduceLT, Int.reduceLE, Option.getD_some]; rfl) ?c_eF3 ?d_eF3 ?_
    case c_eF3 => (refine scansionref17_maker_state_runs (Tscansionref17_maker.mk (TGraph.mk [] []) []) words (h.n + 1) ?_ eF3; (simp (disch := (apply Apart.mk; decide)) only [go_sem, Nat.reduceAdd, Nat.reduceLT, Nat.reduceMul, Nat.reduceLeDiff, Nat.lt_irrefl, Int.reduceToNat, Int.reduceLT, Int.reduceLE]))
    case d_eF3 => rfl
    refine w_ops_nil ?_
    refine (w_n ?_)
    refine w_seq ?_
    refine w_toR (.fix _ _ (.cell (h.n + 1) 0) 4 _ (by simp (disch := (apply Apart.mk; decide)) only [go_sem, Nat.reduceAdd, Nat.reduceLT, Nat.reduceMul, Nat.reduceLeDiff, Nat.lt_irrefl, Int.reduceToNat, Int.reduceLT, Int.reduceLE, cF2]; rfl) (.refl _)) ?_
    refine w_toR (.fix _ _ (.cell (h.n + 1) 1) 35 _ (by simp (disch := (apply Apart.mk; decide)) only [go_sem, Nat.reduceAdd, Nat.reduceLT, Nat.reduceMul, Nat.reduceLeDiff, Nat.lt_irrefl, Int.reduceToNat, Int.reduceLT, Int.reduceLE, cF2]; rfl) (.refl _)) ?_
    refine w_region rfl (by simp (disch := (apply Apart.mk; decide)) only [go_sem, Nat.reduceAdd, Nat.reduceLT, Nat.reduceMul, Nat.reduceLeDiff, Nat.lt_irrefl, Int.reduceToNat, Int.reduceLT, Int.reduceLE, cF2]; rfl) ?_
    refine (w_n ?_)
    refine w_ret ?_
    obtain rfl := hD _ hr
    exact (w_endRD (To.cut (os' := [some (.cells [.val (.sl (List.map eB r1.2.g.Final)), .val (.sl (List.map (eL eEdge) r1.2.g.Edges))])]) (sl := [(2, .cv (.val (.ptr (some (h.n + 0, 0))))), (3, .cv (.val (.int .i64 (0 : Int))))]) hwf (Nat.le_refl _) rfl (by simp (disch := (apply Apart.mk; decide)) only [go_sem, Nat.reduceAdd, Nat.reduceLT, Nat.reduceMul, Nat.reduceLeDiff, Nat.lt_irrefl, Int.reduceToNat, Int.reduceLT, Int.reduceLE, cF2])) (by simp (disch := (apply Apart.mk; decide)) only [go_sem, Nat.reduceAdd, Nat.reduceLT, Nat.reduceMul, Nat.reduceLeDiff, Nat.lt_irrefl, Int.reduceToNat, Int.reduceLT, Int.reduceLE, Try.results17, results_data CT_gives17, resCell, resVal.eq_2, loadOp_sv, cF2]) (Drops.on (os := [some (.cells [.val (.sl (List.map eB r1.2.g.Final)), .val (.sl (List.map (eL eEdge) r1.2.g.Edges))])]) (os' := []) hwf (Nat.le_refl _) (by simp (disch := (apply Apart.mk; decide)) only [go_sem, Nat.reduceAdd, Nat.reduceLT, Nat.reduceMul, Nat.reduceLeDiff, Nat.lt_irrefl, Int.reduceToNat, Int.reduceLT, Int.reduceLE, cF2])) ⟨rfl, on_nil hwf⟩)
end Go.Val

/- part GW46 -/
/- (*scansion/darray.Array).Prefixes runs as it is read off. -/
namespace Go.Val
set_option linter.unusedVariables false
set_option linter.unusedSimpArgs false
set_option maxRecDepth 20000
open Go.Proofs
theorem darray_Array_Prefixes_runs (a_ : Tdarray_Array) (b : List UInt8) (l0 : Nat) {h : Heap} (ha0 : h.at_ l0 = some (.cells [.val (.sl (List.map eB a_.graph.Final)), .val (.sl (List.map (eL eEdge) a_.graph.Edges)), .row 3 (List.map eI a_.base), .row 91 (List.map edarray_cell a_.cells), .val (.sl (List.map eI a_.count))])) {a : List Int} (e : darray_Array_Prefixes a_ b = some a) :
    Runs CT 46 [.cv (.val (.ptr (some (l0, 0)))), .cv (.val (.sl (List.map eU b)))] h fun o h' => o = [.cv (.val (.sl (List.map eI a)))] ∧ h' = h := by
  refine Runs.start Try.f46 _ Try.func46 rfl (by rw [Try.ntmps46]; simp) (by rfl) (by rfl) (fun hwf hu => ?_)
  have hl0 := (hwf _ _ ha0).1
  obtain ⟨D, hD, hr⟩ : ∃ D : List Int → Prop, (∀ z, D z → z = a) ∧ Holds (darray_Array_Prefixes a_ b) D := ⟨fun z => z = a, fun _ h => h, Holds.intro e rfl⟩
  dsimp only [darray_Array_Prefixes] at hr
  change wpCode _ _ _ _ _ ⟨[(0, .cv (.val (.ptr (some (l0, 0))))), (1, .cv (.val (.sl (List.map eU b))))], h.on []⟩
  refine w_seq ?_
  refine w_region rfl (by simp (disch := (apply Apart.mk; decide)) only [go_sem, Nat.reduceAdd, Nat.reduceLT, Nat.reduceMul, Nat.reduceLeDiff, Nat.lt_irrefl, Int.reduceToNat, Int.reduceLT, Int.reduceLE, ha0, on_atB hl0, lt_add hl0, lt_at hl0]; rfl) ?_
  refine (w_n ?_)
  refine w_seq ?_
  refine w_region rfl (by simp (disch := (apply Apart.mk; decide)) only [go_sem, Nat.reduceAdd, Nat.reduceLT, Nat.reduceMul, Nat.reduceLeDiff, Nat.lt_irrefl, Int.reduceToNat, Int.reduceLT, Int.reduceLE, ha0, on_atB hl0, lt_add hl0, lt_at hl0]; rfl) ?_
  refine (w_n ?_)
  refine w_seq ?_
  refine w_ops rfl ?_
  refine w_upto 1 rfl (by simp (disch := (apply Apart.mk; decide)) only [go_sem, Nat.reduceAdd, Nat.reduceLT, Nat.reduceMul, Nat.reduceLeDiff, Nat.lt_irrefl, Int.reduceToNat, Int.reduceLT, Int.reduceLE, ha0, on_atB hl0, lt_add hl0, lt_at hl0]; rfl) ?_
  obtain ⟨r, eF1, hr⟩ := hr.bind
  refine w_call' (out := ?o_eF1) (hp := ?p_eF1) rfl (by simp (disch := (apply Apart.mk; decide)) only [go_sem, Nat.reduceAdd, Nat.reduceLT, Nat.reduceMul, Nat.reduceLeDiff, Nat.lt_irrefl, Int.reduceToNat, Int.reduceLT, Int.reduceLE, ha0, on_atB hl0, lt_add hl0, lt_at hl0, Option.getD_some]; rfl) (by simp (disch := (apply Apart.mk; decide)) only [go_sem, Nat.reduceAdd, Nat.reduceLT, Nat.reduceMul, Nat.reduceLeDiff, Nat.lt_irrefl, Int.reduceToNat, Int.reduceLT, Int.reduceLE, ha0, on_atB hl0, lt_add hl0, lt_at hl0, Option.getD_some]; rfl) (by simp (disch := (apply Apart.mk; decide)) only [go_sem, Nat.reduceAdd, Nat.reduceLT, Nat.reduceMul, Nat.reduceLeDiff, Nat.lt_irrefl, Int.reduceToNat, Int.reduceLT, Int.reduceLE, ha0, on_atB hl0, lt_add hl0, lt_at hl0, Option.getD_some]; rfl) ?c_eF1 ?d_eF1 ?_
  case c_eF1 => (refine darray_Array_Start_runs a_ (l0) ?_ eF1; (simp (disch := (apply Apart.mk; decide)) only [go_sem, Nat.reduceAdd, Nat.reduceLT, Nat.reduceMul, Nat.reduceLeDiff, Nat.lt_irrefl, Int.reduceToNat, Int.reduceLT, Int.reduceLE, ha0, on_atB hl0, lt_add hl0, lt_at hl0]))
  case d_eF1 => rfl
  refine w_ops_end (by simp (disch := (apply Apart.mk; decide)) only [go_sem, Nat.reduceAdd, Nat.reduceLT, Nat.reduceMul, Nat.reduceLeDiff, Nat.lt_irrefl, Int.reduceToNat, Int.reduceLT, Int.reduceLE, ha0, on_atB hl0, lt_add hl0, lt_at hl0]; rfl) ?_
  refine (w_n ?_)
  refine w_seq ?_
  refine w_seq ?_
  refine w_region rfl (by simp (disch := (apply Apart.mk; decide)) only [go_sem, Nat.reduceAdd, Nat.reduceLT, Nat.reduceMul, Nat.reduceLeDiff, Nat.lt_irrefl, Int.reduceToNat, Int.reduceLT, Int.reduceLE, ha0, on_atB hl0, lt_add hl0, lt_at hl0]; rfl) ?_
  refine (w_n ?_)
  refine w_K (D := D) (fun xX : List Int => ⟨[(5, .cv (.row 3 (List.map eI xX)))], h.on []⟩) (fun xX : List Int => darray_Array_Prefixes.k1 xX) (fun xX s' hr ht => ?_) ?_
  · obtain ⟨out, rfl⟩ : ∃ z, z = xX := ⟨xX, rfl⟩
    dsimp only [darray_Array_Prefixes.k1] at hr ht
    refine (w_nT ht ?_)
    refine w_seq ?_
    refine w_region rfl (by simp (disch := (apply Apart.mk; decide)) only [go_sem, Nat.reduceAdd, Nat.reduceLT, Nat.reduceMul, Nat.reduceLeDiff, Nat.lt_irrefl, Int.reduceToNat, Int.reduceLT, Int.reduceLE, ha0, on_atB hl0, lt_add hl0, lt_at hl0]; rfl) ?_
    refine (w_n ?_)
    refine w_ret ?_
    obtain rfl := hD _ hr
    exact (w_endR (.fix _ _ (.slot 4) 3 _ (by simp (disch := (apply Apart.mk; decide)) only [go_sem, Nat.reduceAdd, Nat.reduceLT, Nat.reduceMul, Nat.reduceLeDiff, Nat.lt_irrefl, Int.reduceToNat, Int.reduceLT, Int.reduceLE, ha0, on_atB hl0, lt_add hl0, lt_at hl0]; rfl) (To.cut (os' := []) (sl := [(4, .cv (.val (.sl (List.map eI out))))]) hwf (Nat.le_refl _) (by first | rfl | (simp (disch := (apply Apart.mk; decide)) only [go_sem, Nat.reduceAdd, Nat.reduceLT, Nat.reduceMul, Nat.reduceLeDiff, Nat.lt_irrefl, Int.reduceToNat, Int.reduceLT, Int.reduceLE, ha0, on_atB hl0, lt_add hl0, lt_at hl0]; rfl)) (by simp (disch := (apply Apart.mk; decide)) only [go_sem, Nat.reduceAdd, Nat.reduceLT, Nat.reduceMul, Nat.reduceLeDiff, Nat.lt_irrefl, Int.reduceToNat, Int.reduceLT, Int.reduceLE, ha0, on_atB hl0, lt_add hl0, lt_at hl0]))) (by simp (disch := (apply Apart.mk; decide)) only [go_sem, Nat.reduceAdd, Nat.reduceLT, Nat.reduceMul, Nat.reduceLeDiff, Nat.lt_irrefl, Int.reduceToNat, Int.reduceLT, Int.reduceLE, ha0, on_atB hl0, lt_add hl0, lt_at hl0, Try.results46, results_data CT_gives46, resCell, resVal.eq_2, loadOp_sv]) ⟨rfl, on_nil hwf⟩)
  · refine w_block ?_
    refine w_Loop (fun xX : (List Int × Int × Bool × Int) => ⟨[(0, .cv (.val (.ptr (some (l0, 0))))), (1, .cv (.val (.sl (List.map eU b)))), (5, .cv (.row 3 (List.map eI xX.1))), (6, .cv (.val (.int .i64 xX.2.1))), (7, .cv (.val (.bool xX.2.2.1))), (8, .cv (.val (.int .i64 xX.2.2.2)))], h.on []⟩) hr (To.cut hwf (Nat.le_refl _) (by first | rfl | (simp (disch := (apply Apart.mk; decide)) only [go_sem, Nat.reduceAdd, Nat.reduceLT, Nat.reduceMul, Nat.reduceLeDiff, Nat.lt_irrefl, Int.reduceToNat, Int.reduceLT, Int.reduceLE, ha0, on_atB hl0, lt_add hl0, lt_at hl0]; rfl)) (by simp (disch := (apply Apart.mk; decide)) only [go_sem, Nat.reduceAdd, Nat.reduceLT, Nat.reduceMul, Nat.reduceLeDiff, Nat.lt_irrefl, Int.reduceToNat, Int.reduceLT, Int.reduceLE, ha0, on_atB hl0, lt_add hl0, lt_at hl0])) (fun W1 xX hr => ?_)
    obtain ⟨out1, s, is, n⟩ := xX
    dsimp only [darray_Array_Prefixes.b1] at hr
    refine w_seq ?_
    refine w_seq ?_
    refine w_region rfl (by simp (disch := (apply Apart.mk; decide)) only [go_sem, Nat.reduceAdd, Nat.reduceLT, Nat.reduceMul, Nat.reduceLeDiff, Nat.lt_irrefl, Int.reduceToNat, Int.reduceLT, Int.reduceLE, ha0, on_atB hl0, lt_add hl0, lt_at hl0]; rfl) ?_
    refine (w_n ?_)
    refine w_condH (by simp (disch := (apply Apart.mk; decide)) only [go_sem, Nat.reduceAdd, Nat.reduceLT, Nat.reduceMul, Nat.reduceLeDiff, Nat.lt_irrefl, Int.reduceToNat, Int.reduceLT, Int.reduceLE, ha0, on_atB hl0, lt_add hl0, lt_at hl0]) hr (fun cF2 hr => ?_) (fun cF2 hr => ?_)
    · refine w_skip ?_
      refine (w_n ?_)
      refine w_seq ?_
      refine w_block ?_
      refine w_seq ?_
      refine w_seq ?_
      refine w_ops rfl ?_
      refine w_upto 2 rfl (by simp (disch := (apply Apart.mk; decide)) only [go_sem, Nat.reduceAdd, Nat.reduceLT, Nat.reduceMul, Nat.reduceLeDiff, Nat.lt_irrefl, Int.reduceToNat, Int.reduceLT, Int.reduceLE, ha0, on_atB hl0, lt_add hl0, lt_at hl0]; rfl) ?_
      obtain ⟨r1, eF3, hr⟩ := hr.bind
      refine w_call' (out := ?o_eF3) (hp := ?p_eF3) rfl (by simp (disch := (apply Apart.mk; decide)) only [go_sem, Nat.reduceAdd, Nat.reduceLT, Nat.reduceMul, Nat.reduceLeDiff, Nat.lt_irrefl, Int.reduceToNat, Int.reduceLT, Int.reduceLE, ha0, on_atB hl0, lt_add hl0, lt_at hl0, Option.getD_some]; rfl) (by simp (disch := (apply Apart.mk; decide)) only [go_sem, Nat.reduceAdd, Nat.reduceLT, Nat.reduceMul, Nat.reduceLeDiff, Nat.lt_irrefl, Int.reduceToNat, Int.reduceLT, Int.reduceLE, ha0, on_atB hl0, lt_add hl0, lt_at hl0, Option.getD_some]; rfl) (by simp (disch := (apply Apart.mk; decide)) only [go_sem, Nat.reduceAdd, Nat.reduceLT, Nat.reduceMul, Nat.reduceLeDiff, Nat.lt_irrefl, Int.reduceToNat, Int.reduceLT, Int.reduceLE, ha0, on_atB hl0, lt_add hl0, lt_at hl0, Option.getD_some]; rfl) ?c_eF3 ?d_eF3 ?_
      case c_eF3 => (refine darray_Array_Final_runs a_ s (l0) ?_ eF3; (simp (disch := (apply Apart.mk; decide)) only [go_sem, Nat.reduceAdd, Nat.reduceLT, Nat.reduceMul, Nat.reduceLeDiff, Nat.lt_irrefl, Int.reduceToNat, Int.reduceLT, Int.reduceLE, ha0, on_atB hl0, lt_add hl0, lt_at hl0]))
      case d_eF3 => rfl
      refine w_ops_nil ?_
      refine (w_n ?_)
      refine w_K (D := (Aft W1 D)) (fun xX : List Int => ⟨[(0, .cv (.val (.ptr (some (l0, 0))))), (1, .cv (.val (.sl (List.map eU b)))), (5, .cv (.row 3 (List.map eI xX))), (6, .cv (.val (.int .i64 s))), (8, .cv (.val (.int .i64 n)))], h.on []⟩) (fun xX : List Int => darray_Array_Prefixes.k2 a_ b s n xX) (fun xX s' hr ht => ?_) ?_
      · obtain ⟨out2, rfl⟩ : ∃ z, z = xX := ⟨xX, rfl⟩
        dsimp only [darray_Array_Prefixes.k2] at hr ht
        refine (w_nT ht ?_)
        refine w_seq ?_
        refine w_seq ?_
        refine w_region rfl (by simp (disch := (apply Apart.mk; decide)) only [go_sem, Nat.reduceAdd, Nat.reduceLT, Nat.reduceMul, Nat.reduceLeDiff, Nat.lt_irrefl, Int.reduceToNat, Int.reduceLT, Int.reduceLE, ha0, on_atB hl0, lt_add hl0, lt_at hl0, cF2]; rfl) ?_
        refine (w_n ?_)
        refine w_condH (by simp (disch := (apply Apart.mk; decide)) only [go_sem, Nat.reduceAdd, Nat.reduceLT, Nat.reduceMul, Nat.reduceLeDiff, Nat.lt_irrefl, Int.reduceToNat, Int.reduceLT, Int.reduceLE, ha0, on_atB hl0, lt_add hl0, lt_at hl0, cF2]) hr (fun cF4 hr => ?_) (fun cF4 hr => ?_)
        · refine w_exit ?_
          exact (w_te (w_bo (w_te (w_te (w_bx (w_k ⟨out2, (hr).map, (To.cut hwf (Nat.le_refl _) (by first | rfl | (simp (disch := (apply Apart.mk; decide)) only [go_sem, Nat.reduceAdd, Nat.reduceLT, Nat.reduceMul, Nat.reduceLeDiff, Nat.lt_irrefl, Int.reduceToNat, Int.reduceLT, Int.reduceLE, ha0, on_atB hl0, lt_add hl0, lt_at hl0, cF2, cF4]; rfl)) (by simp (disch := (apply Apart.mk; decide)) only [go_sem, Nat.reduceAdd, Nat.reduceLT, Nat.reduceMul, Nat.reduceLeDiff, Nat.lt_irrefl, Int.reduceToNat, Int.reduceLT, Int.reduceLE, ha0, on_atB hl0, lt_add hl0, lt_at hl0, cF2, cF4]))⟩)))) rfl))
        · refine w_skip ?_
          refine (w_n ?_)
          refine w_ops rfl ?_
          obtain ⟨n1, nF5, eF6, gF7, hr⟩ := hr.idx
          refine w_upto 6 rfl (by simp (disch := (apply Apart.mk; decide)) only [go_sem, Nat.reduceAdd, Nat.reduceLT, Nat.reduceMul, Nat.reduceLeDiff, Nat.lt_irrefl, Int.reduceToNat, Int.reduceLT, Int.reduceLE, ha0, on_atB hl0, lt_add hl0, lt_at hl0, nF5, eF6, gF7]; rfl) ?_
          obtain ⟨r2, eF8, hr⟩ := hr.bind
          refine w_call' (out := ?o_eF8) (hp := ?p_eF8) rfl (by simp (disch := (apply Apart.mk; decide)) only [go_sem, Nat.reduceAdd, Nat.reduceLT, Nat.reduceMul, Nat.reduceLeDiff, Nat.lt_irrefl, Int.reduceToNat, Int.reduceLT, Int.reduceLE, ha0, on_atB hl0, lt_add hl0, lt_at hl0, Option.getD_some, nF5, eF6, gF7]; rfl) (by simp (disch := (apply Apart.mk; decide)) only [go_sem, Nat.reduceAdd, Nat.reduceLT, Nat.reduceMul, Nat.reduceLeDiff, Nat.lt_irrefl, Int.reduceToNat, Int.reduceLT, Int.reduceLE, ha0, on_atB hl0, lt_add hl0, lt_at hl0, Option.getD_some, nF5, eF6, gF7]; rfl) (by simp (disch := (apply Apart.mk; decide)) only [go_sem, Nat.reduceAdd, Nat.reduceLT, Nat.reduceMul, Nat.reduceLeDiff, Nat.lt_irrefl, Int.reduceToNat, Int.reduceLT, Int.reduceLE, ha0, on_atB hl0, lt_add hl0, lt_at hl0, Option.getD_some, nF5, eF6, gF7]; rfl) ?c_eF8 ?d_eF8 ?_
          case c_eF8 => (refine darray_Array_Step_runs a_ s n1 (l0) ?_ eF8; (simp (disch := (apply Apart.mk; decide)) only [go_sem, Nat.reduceAdd, Nat.reduceLT, Nat.reduceMul, Nat.reduceLeDiff, Nat.lt_irrefl, Int.reduceToNat, Int.reduceLT, Int.reduceLE, ha0, on_atB hl0, lt_add hl0, lt_at hl0]))
          case d_eF8 => rfl
          refine w_ops_end (by simp (disch := (apply Apart.mk; decide)) only [go_sem, Nat.reduceAdd, Nat.reduceLT, Nat.reduceMul, Nat.reduceLeDiff, Nat.lt_irrefl, Int.reduceToNat, Int.reduceLT, Int.reduceLE, ha0, on_atB hl0, lt_add hl0, lt_at hl0, nF5, eF6, gF7]; rfl) ?_
          refine (w_bn (w_n ?_))
          refine w_region rfl (by simp (disch := (apply Apart.mk; decide)) only [go_sem, Nat.reduceAdd, Nat.reduceLT, Nat.reduceMul, Nat.reduceLeDiff, Nat.lt_irrefl, Int.reduceToNat, Int.reduceLT, Int.reduceLE, ha0, on_atB hl0, lt_add hl0, lt_at hl0, cF2, cF4]; rfl) ?_
          exact (w_k ⟨(out2, r2.1, r2.2, (IntKind.i64.wrap (n + (1 : Int)))), hr, (To.cut hwf (Nat.le_refl _) (by first | rfl | (simp (disch := (apply Apart.mk; decide)) only [go_sem, Nat.reduceAdd, Nat.reduceLT, Nat.reduceMul, Nat.reduceLeDiff, Nat.lt_irrefl, Int.reduceToNat, Int.reduceLT, Int.reduceLE, ha0, on_atB hl0, lt_add hl0, lt_at hl0, cF2, cF4]; rfl)) (by simp (disch := (apply Apart.mk; decide)) only [go_sem, Nat.reduceAdd, Nat.reduceLT, Nat.reduceMul, Nat.reduceLeDiff, Nat.lt_irrefl, Int.reduceToNat, Int.reduceLT, Int.reduceLE, ha0, on_atB hl0, lt_add hl0, lt_at hl0, cF2, cF4]))⟩)
      · refine w_condH (by simp (disch := (apply Apart.mk; decide)) only [go_sem, Nat.reduceAdd, Nat.reduceLT, Nat.reduceMul, Nat.reduceLeDiff, Nat.lt_irrefl, Int.reduceToNat, Int.reduceLT, Int.reduceLE, ha0, on_atB hl0, lt_add hl0, lt_at hl0, cF2]) hr (fun cF9 hr => ?_) (fun cF9 hr => ?_)
        · obtain ⟨nF10, hr⟩ := hr.room
          refine w_region rfl (by simp (disch := (apply Apart.mk; decide)) only [go_sem, Nat.reduceAdd, Nat.reduceLT, Nat.reduceMul, Nat.reduceLeDiff, Nat.lt_irrefl, Int.reduceToNat, Int.reduceLT, Int.reduceLE, ha0, on_atB hl0, lt_add hl0, lt_at hl0, nF10, cF2, cF9]; rfl) ?_
          exact (w_k ⟨(out1 ++ ([n])), hr, (To.cut hwf (Nat.le_refl _) (by first | rfl | (simp (disch := (apply Apart.mk; decide)) only [go_sem, Nat.reduceAdd, Nat.reduceLT, Nat.reduceMul, Nat.reduceLeDiff, Nat.lt_irrefl, Int.reduceToNat, Int.reduceLT, Int.reduceLE, ha0, on_atB hl0, lt_add hl0, lt_at hl0, cF2, cF9]; rfl)) (by simp (disch := (apply Apart.mk; decide)) only [go_sem, Nat.reduceAdd, Nat.reduceLT, Nat.reduceMul, Nat.reduceLeDiff, Nat.lt_irrefl, Int.reduceToNat, Int.reduceLT, Int.reduceLE, ha0, on_atB hl0, lt_add hl0, lt_at hl0, cF2, cF9]))⟩)
        · refine w_skip ?_
          exact (w_k ⟨out1, hr, (To.cut hwf (Nat.le_refl _) (by first | rfl | (simp (disch := (apply Apart.mk; decide)) only [go_sem, Nat.reduceAdd, Nat.reduceLT, Nat.reduceMul, Nat.reduceLeDiff, Nat.lt_irrefl, Int.reduceToNat, Int.reduceLT, Int.reduceLE, ha0, on_atB hl0, lt_add hl0, lt_at hl0, cF2, cF9]; rfl)) (by simp (disch := (apply Apart.mk; decide)) only [go_sem, Nat.reduceAdd, Nat.reduceLT, Nat.reduceMul, Nat.reduceLeDiff, Nat.lt_irrefl, Int.reduceToNat, Int.reduceLT, Int.reduceLE, ha0, on_atB hl0, lt_add hl0, lt_at hl0, cF2, cF9]))⟩)
    · refine w_exit ?_
      exact (w_te (w_te (w_bx (w_k ⟨out1, (hr).map, (To.cut hwf (Nat.le_refl _) (by first | rfl | (simp (disch := (apply Apart.mk; decide)) only [go_sem, Nat.reduceAdd, Nat.reduceLT, Nat.reduceMul, Nat.reduceLeDiff, Nat.lt_irrefl, Int.reduceToNat, Int.reduceLT, Int.reduceLE, ha0, on_atB hl0, lt_add hl0, lt_at hl0, cF2]; rfl)) (by simp (disch := (apply Apart.mk; decide)) only [go_sem, Nat.reduceAdd, Nat.reduceLT, Nat.reduceMul, Nat.reduceLeDiff, Nat.lt_irrefl, Int.reduceToNat, Int.reduceLT, Int.reduceLE, ha0, on_atB hl0, lt_add hl0, lt_at hl0, cF2]))⟩))))
end Go.Val

/- part GW21 -/
/- scansion/scansionlaw18.awake runs as it is read off. -/
namespace Go.Val
set_option linter.unusedVariables false
set_option linter.unusedSimpArgs false
set_option maxRecDepth 20000
open Go.Proofs
theorem scansionlaw18_awake_runs {h : Heap} {a : Bool} (e : scansionlaw18_awake = some a) :
    Runs CT 21 [] h fun o h' => o = [.cv (.val (.bool a))] ∧ h' = h := by
  refine Runs.start Try.f21 _ Try.func21 rfl (by rw [Try.ntmps21]; simp) (by rfl) (by rfl) (fun hwf hu => ?_)
  obtain ⟨D, hD, hr⟩ : ∃ D : Bool → Prop, (∀ z, D z → z = a) ∧ Holds (scansionlaw18_awake) D := ⟨fun z => z = a, fun _ h => h, Holds.intro e rfl⟩
  dsimp only [scansionlaw18_awake] at hr
  change wpCode _ _ _ _ _ ⟨[], h.on []⟩
  refine w_seq ?_
  refine w_region rfl (by simp (disch := (apply Apart.mk; decide)) only [go_sem, Nat.reduceAdd, Nat.reduceLT, Nat.reduceMul, Nat.reduceLeDiff, Nat.lt_irrefl, Int.reduceToNat, Int.reduceLT, Int.reduceLE]; rfl) ?_
  refine (w_n ?_)
  refine w_seq ?_
  refine w_ops rfl ?_
  refine w_upto 1 rfl (by simp (disch := (apply Apart.mk; decide)) only [go_sem, Nat.reduceAdd, Nat.reduceLT, Nat.reduceMul, Nat.reduceLeDiff, Nat.lt_irrefl, Int.reduceToNat, Int.reduceLT, Int.reduceLE]; rfl) ?_
  obtain ⟨r, eF1, hr⟩ := hr.bind
  refine w_call' (out := ?o_eF1) (hp := ?p_eF1) rfl (by simp (disch := (apply Apart.mk; decide)) only [go_sem, Nat.reduceAdd, Nat.reduceLT, Nat.reduceMul, Nat.reduceLeDiff, Nat.lt_irrefl, Int.reduceToNat, Int.reduceLT, Int.reduceLE, Option.getD_some]; rfl) (by simp (disch := (apply Apart.mk; decide)) only [go_sem, Nat.reduceAdd, Nat.reduceLT, Nat.reduceMul, Nat.reduceLeDiff, Nat.lt_irrefl, Int.reduceToNat, Int.reduceLT, Int.reduceLE, Option.getD_some]; rfl) (by simp (disch := (apply Apart.mk; decide)) only [go_sem, Nat.reduceAdd, Nat.reduceLT, Nat.reduceMul, Nat.reduceLeDiff, Nat.lt_irrefl, Int.reduceToNat, Int.reduceLT, Int.reduceLE, Option.getD_some]; rfl) ?c_eF1 ?d_eF1 ?_
  case c_eF1 => exact scansionref17_Build_runs ([([97, 98] : Str), ([99, 98] : Str)]) eF1
  case d_eF1 => rfl
  refine w_ops_end (by simp (disch := (apply Apart.mk; decide)) only [go_sem, Nat.reduceAdd, Nat.reduceLT, Nat.reduceMul, Nat.reduceLeDiff, Nat.lt_irrefl, Int.reduceToNat, Int.reduceLT, Int.reduceLE]; rfl) ?_
  refine (w_n ?_)
  refine w_seq ?_
  refine w_ops rfl ?_
  refine w_upto 1 rfl (by simp (disch := (apply Apart.mk; decide)) only [go_sem, Nat.reduceAdd, Nat.reduceLT, Nat.reduceMul, Nat.reduceLeDiff, Nat.lt_irrefl, Int.reduceToNat, Int.reduceLT, Int.reduceLE]; rfl) ?_
  obtain ⟨r1, eF2, hr⟩ := hr.bind
  try dsimp only at hr
  rcases xF12 : r1.1 with _ | y
  · rw [xF12] at hr
    dsimp only at hr
    refine w_call' (out := ?o_eF2a) (hp := ?p_eF2a) rfl (by simp (disch := (apply Apart.mk; decide)) only [go_sem, Nat.reduceAdd, Nat.reduceLT, Nat.reduceMul, Nat.reduceLeDiff, Nat.lt_irrefl, Int.reduceToNat, Int.reduceLT, Int.reduceLE, Option.getD_some]; rfl) (by simp (disch := (apply Apart.mk; decide)) only [go_sem, Nat.reduceAdd, Nat.reduceLT, Nat.reduceMul, Nat.reduceLeDiff, Nat.lt_irrefl, Int.reduceToNat, Int.reduceLT, Int.reduceLE, Option.getD_some]; rfl) (by simp (disch := (apply Apart.mk; decide)) only [go_sem, Nat.reduceAdd, Nat.reduceLT, Nat.reduceMul, Nat.reduceLeDiff, Nat.lt_irrefl, Int.reduceToNat, Int.reduceLT, Int.reduceLE, Option.getD_some]; rfl) ?c_eF2a ?d_eF2a ?_
    case c_eF2a => exact darray_Pack_runs_none r.1 eF2 xF12
    case d_eF2a => rfl
    refine w_ops_end (by simp (disch := (apply Apart.mk; decide)) only [go_sem, Nat.reduceAdd, Nat.reduceLT, Nat.reduceMul, Nat.reduceLeDiff, Nat.lt_irrefl, Int.reduceToNat, Int.reduceLT, Int.reduceLE]; rfl) ?_
    refine (w_n ?_)
    refine w_joinR (sj := ⟨[(0, .cv (.val (.bool false)))], h.on []⟩) (w_ops rfl ?_) ?_
    · refine w_upto 3 rfl (by simp (disch := (apply Apart.mk; decide)) only [go_sem, Nat.reduceAdd, Nat.reduceLT, Nat.reduceMul, Nat.reduceLeDiff, Nat.lt_irrefl, Int.reduceToNat, Int.reduceLT, Int.reduceLE]; rfl) ?_
      rcases Bool.eq_false_or_eq_true (r1.2 == (0 : Int)) with cF3 | cF3
      · refine w_upto 5 rfl (by simp (disch := (apply Apart.mk; decide)) only [go_sem, Nat.reduceAdd, Nat.reduceLT, Nat.reduceMul, Nat.reduceLeDiff, Nat.lt_irrefl, Int.reduceToNat, Int.reduceLT, Int.reduceLE, cF3]; rfl) ?_
        refine w_off (by simp (disch := (apply Apart.mk; decide)) only [go_sem, Nat.reduceAdd, Nat.reduceLT, Nat.reduceMul, Nat.reduceLeDiff, Nat.lt_irrefl, Int.reduceToNat, Int.reduceLT, Int.reduceLE, cF3]) ?_
        refine w_upto 4 rfl (by simp (disch := (apply Apart.mk; decide)) only [go_sem, Nat.reduceAdd, Nat.reduceLT, Nat.reduceMul, Nat.reduceLeDiff, Nat.lt_irrefl, Int.reduceToNat, Int.reduceLT, Int.reduceLE, cF3]; rfl) ?_
        refine w_off (by simp (disch := (apply Apart.mk; decide)) only [go_sem, Nat.reduceAdd, Nat.reduceLT, Nat.reduceMul, Nat.reduceLeDiff, Nat.lt_irrefl, Int.reduceToNat, Int.reduceLT, Int.reduceLE, cF3]) ?_
        refine w_upto 6 rfl (by simp (disch := (apply Apart.mk; decide)) only [go_sem, Nat.reduceAdd, Nat.reduceLT, Nat.reduceMul, Nat.reduceLeDiff, Nat.lt_irrefl, Int.reduceToNat, Int.reduceLT, Int.reduceLE, cF3]; rfl) ?_
        refine w_off (by simp (disch := (apply Apart.mk; decide)) only [go_sem, Nat.reduceAdd, Nat.reduceLT, Nat.reduceMul, Nat.reduceLeDiff, Nat.lt_irrefl, Int.reduceToNat, Int.reduceLT, Int.reduceLE, cF3]) ?_
        refine w_upto 1 rfl (by simp (disch := (apply Apart.mk; decide)) only [go_sem, Nat.reduceAdd, Nat.reduceLT, Nat.reduceMul, Nat.reduceLeDiff, Nat.lt_irrefl, Int.reduceToNat, Int.reduceLT, Int.reduceLE, cF3]; rfl) ?_
        refine w_off (by simp (disch := (apply Apart.mk; decide)) only [go_sem, Nat.reduceAdd, Nat.reduceLT, Nat.reduceMul, Nat.reduceLeDiff, Nat.lt_irrefl, Int.reduceToNat, Int.reduceLT, Int.reduceLE, cF3]) ?_
        refine w_ops_end (by simp (disch := (apply Apart.mk; decide)) only [go_sem, Nat.reduceAdd, Nat.reduceLT, Nat.reduceMul, Nat.reduceLeDiff, Nat.lt_irrefl, Int.reduceToNat, Int.reduceLT, Int.reduceLE, cF3]; rfl) ?_
        exact w_k (To.cut hwf (Nat.le_refl _) rfl (by simp (disch := (apply Apart.mk; decide)) only [go_sem, Nat.reduceAdd, Nat.reduceLT, Nat.reduceMul, Nat.reduceLeDiff, Nat.lt_irrefl, Int.reduceToNat, Int.reduceLT, Int.reduceLE, cF3]))
      · refine w_upto 5 rfl (by simp (disch := (apply Apart.mk; decide)) only [go_sem, Nat.reduceAdd, Nat.reduceLT, Nat.reduceMul, Nat.reduceLeDiff, Nat.lt_irrefl, Int.reduceToNat, Int.reduceLT, Int.reduceLE, cF3]; rfl) ?_
        refine w_off (by simp (disch := (apply Apart.mk; decide)) only [go_sem, Nat.reduceAdd, Nat.reduceLT, Nat.reduceMul, Nat.reduceLeDiff, Nat.lt_irrefl, Int.reduceToNat, Int.reduceLT, Int.reduceLE, cF3]) ?_
        refine w_upto 4 rfl (by simp (disch := (apply Apart.mk; decide)) only [go_sem, Nat.reduceAdd, Nat.reduceLT, Nat.reduceMul, Nat.reduceLeDiff, Nat.lt_irrefl, Int.reduceToNat, Int.reduceLT, Int.reduceLE, cF3]; rfl) ?_
        refine w_off (by simp (disch := (apply Apart.mk; decide)) only [go_sem, Nat.reduceAdd, Nat.reduceLT, Nat.reduceMul, Nat.reduceLeDiff, Nat.lt_irrefl, Int.reduceToNat, Int.reduceLT, Int.reduceLE, cF3]) ?_
        refine w_upto 6 rfl (by simp (disch := (apply Apart.mk; decide)) only [go_sem, Nat.reduceAdd, Nat.reduceLT, Nat.reduceMul, Nat.reduceLeDiff, Nat.lt_irrefl, Int.reduceToNat, Int.reduceLT, Int.reduceLE, cF3]; rfl) ?_
        refine w_off (by simp (disch := (apply Apart.mk; decide)) only [go_sem, Nat.reduceAdd, Nat.reduceLT, Nat.reduceMul, Nat.reduceLeDiff, Nat.lt_irrefl, Int.reduceToNat, Int.reduceLT, Int.reduceLE, cF3]) ?_
        refine w_upto 1 rfl (by simp (disch := (apply Apart.mk; decide)) only [go_sem, Nat.reduceAdd, Nat.reduceLT, Nat.reduceMul, Nat.reduceLeDiff, Nat.lt_irrefl, Int.reduceToNat, Int.reduceLT, Int.reduceLE, cF3]; rfl) ?_
        refine w_off (by simp (disch := (apply Apart.mk; decide)) only [go_sem, Nat.reduceAdd, Nat.reduceLT, Nat.reduceMul, Nat.reduceLeDiff, Nat.lt_irrefl, Int.reduceToNat, Int.reduceLT, Int.reduceLE, cF3]) ?_
        refine w_ops_end (by simp (disch := (apply Apart.mk; decide)) only [go_sem, Nat.reduceAdd, Nat.reduceLT, Nat.reduceMul, Nat.reduceLeDiff, Nat.lt_irrefl, Int.reduceToNat, Int.reduceLT, Int.reduceLE, cF3]; rfl) ?_
        exact w_k (To.cut hwf (Nat.le_refl _) rfl (by simp (disch := (apply Apart.mk; decide)) only [go_sem, Nat.reduceAdd, Nat.reduceLT, Nat.reduceMul, Nat.reduceLeDiff, Nat.lt_irrefl, Int.reduceToNat, Int.reduceLT, Int.reduceLE, cF3]))
    refine w_ret ?_
    obtain rfl := hD _ hr
    exact (w_endR (To.cut (os' := []) (sl := [(0, .cv (.val (.bool false)))]) hwf (Nat.le_refl _) rfl (by simp (disch := (apply Apart.mk; decide)) only [go_sem, Nat.reduceAdd, Nat.reduceLT, Nat.reduceMul, Nat.reduceLeDiff, Nat.lt_irrefl, Int.reduceToNat, Int.reduceLT, Int.reduceLE])) (by simp (disch := (apply Apart.mk; decide)) only [go_sem, Nat.reduceAdd, Nat.reduceLT, Nat.reduceMul, Nat.reduceLeDiff, Nat.lt_irrefl, Int.reduceToNat, Int.reduceLT, Int.reduceLE, Try.results21, results_data CT_gives21, resCell, resVal.eq_2, loadOp_sv]) ⟨rfl, on_nil hwf⟩)
  · rw [xF12] at hr
    dsimp only at hr
    refine w_call' (out := ?o_eF2b) (hp := ?p_eF2b) rfl (by simp (disch := (apply Apart.mk; decide)) only [go_sem, Nat.reduceAdd, Nat.reduceLT, Nat.reduceMul, Nat.reduceLeDiff, Nat.lt_irrefl, Int.reduceToNat, Int.reduceLT, Int.reduceLE, Option.getD_some]; rfl) (by simp (disch := (apply Apart.mk; decide)) only [go_sem, Nat.reduceAdd, Nat.reduceLT, Nat.reduceMul, Nat.reduceLeDiff, Nat.lt_irrefl, Int.reduceToNat, Int.reduceLT, Int.reduceLE, Option.getD_some]; rfl) (by simp (disch := (apply Apart.mk; decide)) only [go_sem, Nat.reduceAdd, Nat.reduceLT, Nat.reduceMul, Nat.reduceLeDiff, Nat.lt_irrefl, Int.reduceToNat, Int.reduceLT, Int.reduceLE, Option.getD_some]; rfl) ?c_eF2b ?d_eF2b ?_
    case c_eF2b => exact darray_Pack_runs_some r.1 eF2 xF12
    case d_eF2b => rfl
    refine w_ops_end (by simp (disch := (apply Apart.mk; decide)) only [go_sem, Nat.reduceAdd, Nat.reduceLT, Nat.reduceMul, Nat.reduceLeDiff, Nat.lt_irrefl, Int.reduceToNat, Int.reduceLT, Int.reduceLE]; rfl) ?_
    refine (w_n ?_)
    obtain ⟨v, vF11, hr⟩ := hr.bind
    refine w_joinR (sj := ⟨[(0, .cv (.val (.bool v)))], h.on []⟩) (w_ops rfl ?_) ?_
    · have hr := Holds.intro (D := fun z => z = v) vF11 rfl
      refine w_upto 3 rfl (by simp (disch := (apply Apart.mk; decide)) only [go_sem, Nat.reduceAdd, Nat.reduceLT, Nat.reduceMul, Nat.reduceLeDiff, Nat.lt_irrefl, Int.reduceToNat, Int.reduceLT, Int.reduceLE]; rfl) ?_
      rcases hr.ite with ⟨cF4, hr⟩ | ⟨cF4, hr⟩
      · refine w_upto 5 rfl (by simp (disch := (apply Apart.mk; decide)) only [go_sem, Nat.reduceAdd, Nat.reduceLT, Nat.reduceMul, Nat.reduceLeDiff, Nat.lt_irrefl, Int.reduceToNat, Int.reduceLT, Int.reduceLE, cF4]; rfl) ?_
        obtain ⟨r2, eF5, hr⟩ := hr.bind
        refine w_call' (out := ?o_eF5) (hp := ?p_eF5) (by simp (disch := (apply Apart.mk; decide)) only [go_sem, Nat.reduceAdd, Nat.reduceLT, Nat.reduceMul, Nat.reduceLeDiff, Nat.lt_irrefl, Int.reduceToNat, Int.reduceLT, Int.reduceLE, Option.getD_some, cF4]) (by simp (disch := (apply Apart.mk; decide)) only [go_sem, Nat.reduceAdd, Nat.reduceLT, Nat.reduceMul, Nat.reduceLeDiff, Nat.lt_irrefl, Int.reduceToNat, Int.reduceLT, Int.reduceLE, Option.getD_some, cF4]; rfl) (by simp (disch := (apply Apart.mk; decide)) only [go_sem, Nat.reduceAdd, Nat.reduceLT, Nat.reduceMul, Nat.reduceLeDiff, Nat.lt_irrefl, Int.reduceToNat, Int.reduceLT, Int.reduceLE, Option.getD_some, cF4]; rfl) (by simp (disch := (apply Apart.mk; decide)) only [go_sem, Nat.reduceAdd, Nat.reduceLT, Nat.reduceMul, Nat.reduceLeDiff, Nat.lt_irrefl, Int.reduceToNat, Int.reduceLT, Int.reduceLE, Option.getD_some, cF4]; rfl) ?c_eF5 ?d_eF5 ?_
        case c_eF5 => (refine darray_Array_Start_runs y (h.n + 2) ?_ eF5; (simp (disch := (apply Apart.mk; decide)) only [go_sem, Nat.reduceAdd, Nat.reduceLT, Nat.reduceMul, Nat.reduceLeDiff, Nat.lt_irrefl, Int.reduceToNat, Int.reduceLT, Int.reduceLE]))
        case d_eF5 => rfl
        refine w_upto 3 rfl (by simp (disch := (apply Apart.mk; decide)) only [go_sem, Nat.reduceAdd, Nat.reduceLT, Nat.reduceMul, Nat.reduceLeDiff, Nat.lt_irrefl, Int.reduceToNat, Int.reduceLT, Int.reduceLE, cF4]; rfl) ?_
        rcases hr.ite with ⟨cF6, hr⟩ | ⟨cF6, hr⟩
        · refine w_upto 1 rfl (by simp (disch := (apply Apart.mk; decide)) only [go_sem, Nat.reduceAdd, Nat.reduceLT, Nat.reduceMul, Nat.reduceLeDiff, Nat.lt_irrefl, Int.reduceToNat, Int.reduceLT, Int.reduceLE, cF4, cF6]; rfl) ?_
          obtain ⟨r3, eF7, hr⟩ := hr.bind
          refine w_call' (out := ?o_eF7) (hp := ?p_eF7) (by simp (disch := (apply Apart.mk; decide)) only [go_sem, Nat.reduceAdd, Nat.reduceLT, Nat.reduceMul, Nat.reduceLeDiff, Nat.lt_irrefl, Int.reduceToNat, Int.reduceLT, Int.reduceLE, Option.getD_some, cF4, cF6]) (by simp (disch := (apply Apart.mk; decide)) only [go_sem, Nat.reduceAdd, Nat.reduceLT, Nat.reduceMul, Nat.reduceLeDiff, Nat.lt_irrefl, Int.reduceToNat, Int.reduceLT, Int.reduceLE, Option.getD_some, cF4, cF6]; rfl) (by simp (disch := (apply Apart.mk; decide)) only [go_sem, Nat.reduceAdd, Nat.reduceLT, Nat.reduceMul, Nat.reduceLeDiff, Nat.lt_irrefl, Int.reduceToNat, Int.reduceLT, Int.reduceLE, Option.getD_some, cF4, cF6]; rfl) (by simp (disch := (apply Apart.mk; decide)) only [go_sem, Nat.reduceAdd, Nat.reduceLT, Nat.reduceMul, Nat.reduceLeDiff, Nat.lt_irrefl, Int.reduceToNat, Int.reduceLT, Int.reduceLE, Option.getD_some, cF4, cF6]; rfl) ?c_eF7 ?d_eF7 ?_
          case c_eF7 => (refine darray_Array_Words_runs y (h.n + 2) ?_ eF7; (simp (disch := (apply Apart.mk; decide)) only [go_sem, Nat.reduceAdd, Nat.reduceLT, Nat.reduceMul, Nat.reduceLeDiff, Nat.lt_irrefl, Int.reduceToNat, Int.reduceLT, Int.reduceLE]))
          case d_eF7 => rfl
          refine w_upto 3 rfl (by simp (disch := (apply Apart.mk; decide)) only [go_sem, Nat.reduceAdd, Nat.reduceLT, Nat.reduceMul, Nat.reduceLeDiff, Nat.lt_irrefl, Int.reduceToNat, Int.reduceLT, Int.reduceLE, cF4, cF6]; rfl) ?_
          rcases hr.ite with ⟨cF8, hr⟩ | ⟨cF8, hr⟩
          · refine w_upto 3 rfl (by simp (disch := (apply Apart.mk; decide)) only [go_sem, Nat.reduceAdd, Nat.reduceLT, Nat.reduceMul, Nat.reduceLeDiff, Nat.lt_irrefl, Int.reduceToNat, Int.reduceLT, Int.reduceLE, cF4, cF6, cF8]; rfl) ?_
            obtain ⟨r4, eF9, hr⟩ := hr.bind
            refine w_call' (out := ?o_eF9) (hp := ?p_eF9) (by simp (disch := (apply Apart.mk; decide)) only [go_sem, Nat.reduceAdd, Nat.reduceLT, Nat.reduceMul, Nat.reduceLeDiff, Nat.lt_irrefl, Int.reduceToNat, Int.reduceLT, Int.reduceLE, Option.getD_some, cF4, cF6, cF8]) (by simp (disch := (apply Apart.mk; decide)) only [go_sem, Nat.reduceAdd, Nat.reduceLT, Nat.reduceMul, Nat.reduceLeDiff, Nat.lt_irrefl, Int.reduceToNat, Int.reduceLT, Int.reduceLE, Option.getD_some, cF4, cF6, cF8]; rfl) (by simp (disch := (apply Apart.mk; decide)) only [go_sem, Nat.reduceAdd, Nat.reduceLT, Nat.reduceMul, Nat.reduceLeDiff, Nat.lt_irrefl, Int.reduceToNat, Int.reduceLT, Int.reduceLE, Option.getD_some, cF4, cF6, cF8]; rfl) (by simp (disch := (apply Apart.mk; decide)) only [go_sem, Nat.reduceAdd, Nat.reduceLT, Nat.reduceMul, Nat.reduceLeDiff, Nat.lt_irrefl, Int.reduceToNat, Int.reduceLT, Int.reduceLE, Option.getD_some, cF4, cF6, cF8]; rfl) ?c_eF9 ?d_eF9 ?_
            case c_eF9 => (refine darray_Array_Prefixes_runs y ([(u8 (97 : Int)), (u8 (98 : Int)), (u8 (99 : Int))]) (h.n + 2) ?_ eF9; (simp (disch := (apply Apart.mk; decide)) only [go_sem, Nat.reduceAdd, Nat.reduceLT, Nat.reduceMul, Nat.reduceLeDiff, Nat.lt_irrefl, Int.reduceToNat, Int.reduceLT, Int.reduceLE]))
            case d_eF9 => rfl
            refine w_upto 1 rfl (by simp (disch := (apply Apart.mk; decide)) only [go_sem, Nat.reduceAdd, Nat.reduceLT, Nat.reduceMul, Nat.reduceLeDiff, Nat.lt_irrefl, Int.reduceToNat, Int.reduceLT, Int.reduceLE, cF4, cF6, cF8]; rfl) ?_
            obtain ⟨r5, eF10, hr⟩ := hr.bind
            refine w_call' (out := ?o_eF10) (hp := ?p_eF10) (by simp (disch := (apply Apart.mk; decide)) only [go_sem, Nat.reduceAdd, Nat.reduceLT, Nat.reduceMul, Nat.reduceLeDiff, Nat.lt_irrefl, Int.reduceToNat, Int.reduceLT, Int.reduceLE, Option.getD_some, cF4, cF6, cF8]) (by simp (disch := (apply Apart.mk; decide)) only [go_sem, Nat.reduceAdd, Nat.reduceLT, Nat.reduceMul, Nat.reduceLeDiff, Nat.lt_irrefl, Int.reduceToNat, Int.reduceLT, Int.reduceLE, Option.getD_some, cF4, cF6, cF8]; rfl) (by simp (disch := (apply Apart.mk; decide)) only [go_sem, Nat.reduceAdd, Nat.reduceLT, Nat.reduceMul, Nat.reduceLeDiff, Nat.lt_irrefl, Int.reduceToNat, Int.reduceLT, Int.reduceLE, Option.getD_some, cF4, cF6, cF8]; rfl) (by simp (disch := (apply Apart.mk; decide)) only [go_sem, Nat.reduceAdd, Nat.reduceLT, Nat.reduceMul, Nat.reduceLeDiff, Nat.lt_irrefl, Int.reduceToNat, Int.reduceLT, Int.reduceLE, Option.getD_some, cF4, cF6, cF8]; rfl) ?c_eF10 ?d_eF10 ?_
            case c_eF10 => exact scansionref01_SameInts_runs r4 ([(2 : Int)]) eF10
            case d_eF10 => rfl
            refine w_ops_end (by simp (disch := (apply Apart.mk; decide)) only [go_sem, Nat.reduceAdd, Nat.reduceLT, Nat.reduceMul, Nat.reduceLeDiff, Nat.lt_irrefl, Int.reduceToNat, Int.reduceLT, Int.reduceLE, cF4, cF6, cF8]; rfl) ?_
            obtain rfl : _ = v := hr
            exact w_k (To.cut hwf (Nat.le_refl _) rfl (by simp (disch := (apply Apart.mk; decide)) only [go_sem, Nat.reduceAdd, Nat.reduceLT, Nat.reduceMul, Nat.reduceLeDiff, Nat.lt_irrefl, Int.reduceToNat, Int.reduceLT, Int.reduceLE, cF4, cF6, cF8]))
          · refine w_upto 3 rfl (by simp (disch := (apply Apart.mk; decide)) only [go_sem, Nat.reduceAdd, Nat.reduceLT, Nat.reduceMul, Nat.reduceLeDiff, Nat.lt_irrefl, Int.reduceToNat, Int.reduceLT, Int.reduceLE, cF4, cF6, cF8]; rfl) ?_
            refine w_off (by simp (disch := (apply Apart.mk; decide)) only [go_sem, Nat.reduceAdd, Nat.reduceLT, Nat.reduceMul, Nat.reduceLeDiff, Nat.lt_irrefl, Int.reduceToNat, Int.reduceLT, Int.reduceLE, cF4, cF6, cF8]) ?_
            refine w_upto 1 rfl (by simp (disch := (apply Apart.mk; decide)) only [go_sem, Nat.reduceAdd, Nat.reduceLT, Nat.reduceMul, Nat.reduceLeDiff, Nat.lt_irrefl, Int.reduceToNat, Int.reduceLT, Int.reduceLE, cF4, cF6, cF8]; rfl) ?_
            refine w_off (by simp (disch := (apply Apart.mk; decide)) only [go_sem, Nat.reduceAdd, Nat.reduceLT, Nat.reduceMul, Nat.reduceLeDiff, Nat.lt_irrefl, Int.reduceToNat, Int.reduceLT, Int.reduceLE, cF4, cF6, cF8]) ?_
            refine w_ops_end (by simp (disch := (apply Apart.mk; decide)) only [go_sem, Nat.reduceAdd, Nat.reduceLT, Nat.reduceMul, Nat.reduceLeDiff, Nat.lt_irrefl, Int.reduceToNat, Int.reduceLT, Int.reduceLE, cF4, cF6, cF8]; rfl) ?_
            obtain rfl : _ = v := hr
            exact w_k (To.cut hwf (Nat.le_refl _) rfl (by simp (disch := (apply Apart.mk; decide)) only [go_sem, Nat.reduceAdd, Nat.reduceLT, Nat.reduceMul, Nat.reduceLeDiff, Nat.lt_irrefl, Int.reduceToNat, Int.reduceLT, Int.reduceLE, cF4, cF6, cF8]))
        · refine w_upto 1 rfl (by simp (disch := (apply Apart.mk; decide)) only [go_sem, Nat.reduceAdd, Nat.reduceLT, Nat.reduceMul, Nat.reduceLeDiff, Nat.lt_irrefl, Int.reduceToNat, Int.reduceLT, Int.reduceLE, cF4, cF6]; rfl) ?_
          refine w_off (by simp (disch := (apply Apart.mk; decide)) only [go_sem, Nat.reduceAdd, Nat.reduceLT, Nat.reduceMul, Nat.reduceLeDiff, Nat.lt_irrefl, Int.reduceToNat, Int.reduceLT, Int.reduceLE, cF4, cF6]) ?_
          refine w_upto 6 rfl (by simp (disch := (apply Apart.mk; decide)) only [go_sem, Nat.reduceAdd, Nat.reduceLT, Nat.reduceMul, Nat.reduceLeDiff, Nat.lt_irrefl, Int.reduceToNat, Int.reduceLT, Int.reduceLE, cF4, cF6]; rfl) ?_
          refine w_off (by simp (disch := (apply Apart.mk; decide)) only [go_sem, Nat.reduceAdd, Nat.reduceLT, Nat.reduceMul, Nat.reduceLeDiff, Nat.lt_irrefl, Int.reduceToNat, Int.reduceLT, Int.reduceLE, cF4, cF6]) ?_
          refine w_upto 1 rfl (by simp (disch := (apply Apart.mk; decide)) only [go_sem, Nat.reduceAdd, Nat.reduceLT, Nat.reduceMul, Nat.reduceLeDiff, Nat.lt_irrefl, Int.reduceToNat, Int.reduceLT, Int.reduceLE, cF4, cF6]; rfl) ?_
          refine w_off (by simp (disch := (apply Apart.mk; decide)) only [go_sem, Nat.reduceAdd, Nat.reduceLT, Nat.reduceMul, Nat.reduceLeDiff, Nat.lt_irrefl, Int.reduceToNat, Int.reduceLT, Int.reduceLE, cF4, cF6]) ?_
          refine w_ops_end (by simp (disch := (apply Apart.mk; decide)) only [go_sem, Nat.reduceAdd, Nat.reduceLT, Nat.reduceMul, Nat.reduceLeDiff, Nat.lt_irrefl, Int.reduceToNat, Int.reduceLT, Int.reduceLE, cF4, cF6]; rfl) ?_
          obtain rfl : _ = v := hr
          exact w_k (To.cut hwf (Nat.le_refl _) rfl (by simp (disch := (apply Apart.mk; decide)) only [go_sem, Nat.reduceAdd, Nat.reduceLT, Nat.reduceMul, Nat.reduceLeDiff, Nat.lt_irrefl, Int.reduceToNat, Int.reduceLT, Int.reduceLE, cF4, cF6]))
      · refine w_upto 5 rfl (by simp (disch := (apply Apart.mk; decide)) only [go_sem, Nat.reduceAdd, Nat.reduceLT, Nat.reduceMul, Nat.reduceLeDiff, Nat.lt_irrefl, Int.reduceToNat, Int.reduceLT, Int.reduceLE, cF4]; rfl) ?_
        refine w_off (by simp (disch := (apply Apart.mk; decide)) only [go_sem, Nat.reduceAdd, Nat.reduceLT, Nat.reduceMul, Nat.reduceLeDiff, Nat.lt_irrefl, Int.reduceToNat, Int.reduceLT, Int.reduceLE, cF4]) ?_
        refine w_upto 4 rfl (by simp (disch := (apply Apart.mk; decide)) only [go_sem, Nat.reduceAdd, Nat.reduceLT, Nat.reduceMul, Nat.reduceLeDiff, Nat.lt_irrefl, Int.reduceToNat, Int.reduceLT, Int.reduceLE, cF4]; rfl) ?_
        refine w_off (by simp (disch := (apply Apart.mk; decide)) only [go_sem, Nat.reduceAdd, Nat.reduceLT, Nat.reduceMul, Nat.reduceLeDiff, Nat.lt_irrefl, Int.reduceToNat, Int.reduceLT, Int.reduceLE, cF4]) ?_
        refine w_upto 6 rfl (by simp (disch := (apply Apart.mk; decide)) only [go_sem, Nat.reduceAdd, Nat.reduceLT, Nat.reduceMul, Nat.reduceLeDiff, Nat.lt_irrefl, Int.reduceToNat, Int.reduceLT, Int.reduceLE, cF4]; rfl) ?_
        refine w_off (by simp (disch := (apply Apart.mk; decide)) only [go_sem, Nat.reduceAdd, Nat.reduceLT, Nat.reduceMul, Nat.reduceLeDiff, Nat.lt_irrefl, Int.reduceToNat, Int.reduceLT, Int.reduceLE, cF4]) ?_
        refine w_upto 1 rfl (by simp (disch := (apply Apart.mk; decide)) only [go_sem, Nat.reduceAdd, Nat.reduceLT, Nat.reduceMul, Nat.reduceLeDiff, Nat.lt_irrefl, Int.reduceToNat, Int.reduceLT, Int.reduceLE, cF4]; rfl) ?_
        refine w_off (by simp (disch := (apply Apart.mk; decide)) only [go_sem, Nat.reduceAdd, Nat.reduceLT, Nat.reduceMul, Nat.reduceLeDiff, Nat.lt_irrefl, Int.reduceToNat, Int.reduceLT, Int.reduceLE, cF4]) ?_
        refine w_ops_end (by simp (disch := (apply Apart.mk; decide)) only [go_sem, Nat.reduceAdd, Nat.reduceLT, Nat.reduceMul, Nat.reduceLeDiff, Nat.lt_irrefl, Int.reduceToNat, Int.reduceLT, Int.reduceLE, cF4]; rfl) ?_
        obtain rfl : _ = v := hr
        exact w_k (To.cut hwf (Nat.le_refl _) rfl (by simp (disch := (apply Apart.mk; decide)) only [go_sem, Nat.reduceAdd, Nat.reduceLT, Nat.reduceMul, Nat.reduceLeDiff, Nat.lt_irrefl, Int.reduceToNat, Int.reduceLT, Int.reduceLE, cF4]))
    refine w_ret ?_
    obtain rfl := hD _ hr
    exact (w_endR (To.cut (os' := []) (sl := [(0, .cv (.val (.bool v)))]) hwf (Nat.le_refl _) rfl (by simp (disch := (apply Apart.mk; decide)) only [go_sem, Nat.reduceAdd, Nat.reduceLT, Nat.reduceMul, Nat.reduceLeDiff, Nat.lt_irrefl, Int.reduceToNat, Int.reduceLT, Int.reduceLE])) (by simp (disch := (apply Apart.mk; decide)) only [go_sem, Nat.reduceAdd, Nat.reduceLT, Nat.reduceMul, Nat.reduceLeDiff, Nat.lt_irrefl, Int.reduceToNat, Int.reduceLT, Int.reduceLE, Try.results21, results_data CT_gives21, resCell, resVal.eq_2, loadOp_sv]) ⟨rfl, on_nil hwf⟩)
end Go.Val

/- part GW8 -/
/- scansion/scansionlaw18.DarraySteps runs as it is read off. -/
namespace Go.Val
set_option linter.unusedVariables false
set_option linter.unusedSimpArgs false
set_option maxRecDepth 20000
open Go.Proofs
theorem scansionlaw18_DarraySteps_runs (g : TGraph) (b : List UInt8) {h : Heap} {a : Bool} (e : scansionlaw18_DarraySteps g b = some a) :
    Runs CT 8 [.cv (.val (.agg [.sl (List.map eB g.Final), .sl (List.map (eL eEdge) g.Edges)])), .cv (.val (.sl (List.map eU b)))] h fun o h' => o = [.cv (.val (.bool a))] ∧ h' = h := by
  refine Runs.start Try.f8 _ Try.func8 rfl (by rw [Try.ntmps8]; simp) (by rfl) (by rfl) (fun hwf hu => ?_)
  obtain ⟨D, hD, hr⟩ : ∃ D : Bool → Prop, (∀ z, D z → z = a) ∧ Holds (scansionlaw18_DarraySteps g b) D := ⟨fun z => z = a, fun _ h => h, Holds.intro e rfl⟩
  dsimp only [scansionlaw18_DarraySteps] at hr
  change wpCode _ _ _ _ _ ⟨[(0, .cv (.val (.agg [.sl (List.map eB g.Final), .sl (List.map (eL eEdge) g.Edges)]))), (1, .cv (.val (.sl (List.map eU b))))], h.on []⟩
  refine w_seq ?_
  refine w_region rfl (by simp (disch := (apply Apart.mk; decide)) only [go_sem, Nat.reduceAdd, Nat.reduceLT, Nat.reduceMul, Nat.reduceLeDiff, Nat.lt_irrefl, Int.reduceToNat, Int.reduceLT, Int.reduceLE]; rfl) ?_
  refine (w_n ?_)
  refine w_seq ?_
  refine w_ops rfl ?_
  obtain ⟨r, eF1, hr⟩ := hr.bind
  refine w_call' (out := ?o_eF1) (hp := ?p_eF1) rfl (by simp (disch := (apply Apart.mk; decide)) only [go_sem, Nat.reduceAdd, Nat.reduceLT, Nat.reduceMul, Nat.reduceLeDiff, Nat.lt_irrefl, Int.reduceToNat, Int.reduceLT, Int.reduceLE, Option.getD_some]; rfl) (by simp (disch := (apply Apart.mk; decide)) only [go_sem, Nat.reduceAdd, Nat.reduceLT, Nat.reduceMul, Nat.reduceLeDiff, Nat.lt_irrefl, Int.reduceToNat, Int.reduceLT, Int.reduceLE, Option.getD_some]; rfl) (by simp (disch := (apply Apart.mk; decide)) only [go_sem, Nat.reduceAdd, Nat.reduceLT, Nat.reduceMul, Nat.reduceLeDiff, Nat.lt_irrefl, Int.reduceToNat, Int.reduceLT, Int.reduceLE, Option.getD_some]; rfl) ?c_eF1 ?d_eF1 ?_
  case c_eF1 => exact scansionlaw18_awake_runs  eF1
  case d_eF1 => rfl
  refine w_ops_end (by simp (disch := (apply Apart.mk; decide)) only [go_sem, Nat.reduceAdd, Nat.reduceLT, Nat.reduceMul, Nat.reduceLeDiff, Nat.lt_irrefl, Int.reduceToNat, Int.reduceLT, Int.reduceLE]; rfl) ?_
  refine (w_n ?_)
  refine w_seq ?_
  refine w_ops rfl ?_
  refine w_upto 1 rfl (by simp (disch := (apply Apart.mk; decide)) only [go_sem, Nat.reduceAdd, Nat.reduceLT, Nat.reduceMul, Nat.reduceLeDiff, Nat.lt_irrefl, Int.reduceToNat, Int.reduceLT, Int.reduceLE]; rfl) ?_
  obtain ⟨r1, eF2, hr⟩ := hr.bind
  refine w_call' (out := ?o_eF2) (hp := ?p_eF2) rfl (by simp (disch := (apply Apart.mk; decide)) only [go_sem, Nat.reduceAdd, Nat.reduceLT, Nat.reduceMul, Nat.reduceLeDiff, Nat.lt_irrefl, Int.reduceToNat, Int.reduceLT, Int.reduceLE, Option.getD_some]; rfl) (by simp (disch := (apply Apart.mk; decide)) only [go_sem, Nat.reduceAdd, Nat.reduceLT, Nat.reduceMul, Nat.reduceLeDiff, Nat.lt_irrefl, Int.reduceToNat, Int.reduceLT, Int.reduceLE, Option.getD_some]; rfl) (by simp (disch := (apply Apart.mk; decide)) only [go_sem, Nat.reduceAdd, Nat.reduceLT, Nat.reduceMul, Nat.reduceLeDiff, Nat.lt_irrefl, Int.reduceToNat, Int.reduceLT, Int.reduceLE, Option.getD_some]; rfl) ?c_eF2 ?d_eF2 ?_
  case c_eF2 => exact scansionref17_Few_runs g (60 : Int) eF2
  case d_eF2 => rfl
  refine w_ops_end (by simp (disch := (apply Apart.mk; decide)) only [go_sem, Nat.reduceAdd, Nat.reduceLT, Nat.reduceMul, Nat.reduceLeDiff, Nat.lt_irrefl, Int.reduceToNat, Int.reduceLT, Int.reduceLE]; rfl) ?_
  refine (w_n ?_)
  refine w_seq ?_
  refine w_joinR (sj := ⟨[(1, .cv (.val (.sl (List.map eU b)))), (2, .cv (.val (.ptr (some (h.n + 0, 0))))), (5, .cv (.val (.bool r))), (28, .cv (.val (.bool ((!r) || ((!r1) || (decide ((b.length : Int) > (100 : Int))))))))], h.on [some (.cells [.val (.sl (List.map eB g.Final)), .val (.sl (List.map (eL eEdge) g.Edges))])]⟩) (w_ops rfl ?_) ?_
  · refine w_upto 3 rfl (by simp (disch := (apply Apart.mk; decide)) only [go_sem, Nat.reduceAdd, Nat.reduceLT, Nat.reduceMul, Nat.reduceLeDiff, Nat.lt_irrefl, Int.reduceToNat, Int.reduceLT, Int.reduceLE]; rfl) ?_
    rcases Bool.eq_false_or_eq_true (!r) with cF3 | cF3
    · refine w_ops_end (by simp (disch := (apply Apart.mk; decide)) only [go_sem, Nat.reduceAdd, Nat.reduceLT, Nat.reduceMul, Nat.reduceLeDiff, Nat.lt_irrefl, Int.reduceToNat, Int.reduceLT, Int.reduceLE, cF3]; rfl) ?_
      exact w_k (To.cut hwf (Nat.le_refl _) rfl (by simp (disch := (apply Apart.mk; decide)) only [go_sem, Nat.reduceAdd, Nat.reduceLT, Nat.reduceMul, Nat.reduceLeDiff, Nat.lt_irrefl, Int.reduceToNat, Int.reduceLT, Int.reduceLE, cF3]))
    · refine w_upto 4 rfl (by simp (disch := (apply Apart.mk; decide)) only [go_sem, Nat.reduceAdd, Nat.reduceLT, Nat.reduceMul, Nat.reduceLeDiff, Nat.lt_irrefl, Int.reduceToNat, Int.reduceLT, Int.reduceLE, cF3]; rfl) ?_
      rcases Bool.eq_false_or_eq_true (!r1) with cF4 | cF4
      · refine w_ops_end (by simp (disch := (apply Apart.mk; decide)) only [go_sem, Nat.reduceAdd, Nat.reduceLT, Nat.reduceMul, Nat.reduceLeDiff, Nat.lt_irrefl, Int.reduceToNat, Int.reduceLT, Int.reduceLE, cF3, cF4]; rfl) ?_
        exact w_k (To.cut hwf (Nat.le_refl _) rfl (by simp (disch := (apply Apart.mk; decide)) only [go_sem, Nat.reduceAdd, Nat.reduceLT, Nat.reduceMul, Nat.reduceLeDiff, Nat.lt_irrefl, Int.reduceToNat, Int.reduceLT, Int.reduceLE, cF3, cF4]))
      · refine w_ops_end (by simp (disch := (apply Apart.mk; decide)) only [go_sem, Nat.reduceAdd, Nat.reduceLT, Nat.reduceMul, Nat.reduceLeDiff, Nat.lt_irrefl, Int.reduceToNat, Int.reduceLT, Int.reduceLE, cF3, cF4]; rfl) ?_
        exact w_k (To.cut hwf (Nat.le_refl _) rfl (by simp (disch := (apply Apart.mk; decide)) only [go_sem, Nat.reduceAdd, Nat.reduceLT, Nat.reduceMul, Nat.reduceLeDiff, Nat.lt_irrefl, Int.reduceToNat, Int.reduceLT, Int.reduceLE, cF3, cF4]))
  refine w_condH (by simp (disch := (apply Apart.mk; decide)) only [go_sem, Nat.reduceAdd, Nat.reduceLT, Nat.reduceMul, Nat.reduceLeDiff, Nat.lt_irrefl, Int.reduceToNat, Int.reduceLT, Int.reduceLE]) hr (fun cF5 hr => ?_) (fun cF5 hr => ?_)
  · refine w_seq ?_
    refine w_region rfl (by simp (disch := (apply Apart.mk; decide)) only [go_sem, Nat.reduceAdd, Nat.reduceLT, Nat.reduceMul, Nat.reduceLeDiff, Nat.lt_irrefl, Int.reduceToNat, Int.reduceLT, Int.reduceLE, cF5]; rfl) ?_
    refine (w_n ?_)
    refine w_ret ?_
    obtain rfl := hD _ hr
    exact (w_tr (w_endR (To.cut (os' := []) (sl := [(4, .cv (.val (.bool r)))]) hwf (Nat.le_refl _) rfl (by simp (disch := (apply Apart.mk; decide)) only [go_sem, Nat.reduceAdd, Nat.reduceLT, Nat.reduceMul, Nat.reduceLeDiff, Nat.lt_irrefl, Int.reduceToNat, Int.reduceLT, Int.reduceLE, cF5])) (by simp (disch := (apply Apart.mk; decide)) only [go_sem, Nat.reduceAdd, Nat.reduceLT, Nat.reduceMul, Nat.reduceLeDiff, Nat.lt_irrefl, Int.reduceToNat, Int.reduceLT, Int.reduceLE, Try.results8, results_data CT_gives8, resCell, resVal.eq_2, loadOp_sv, cF5]) ⟨rfl, on_nil hwf⟩))
  · refine w_skip ?_
    refine (w_n ?_)
    refine w_seq ?_
    refine w_ops rfl ?_
    refine w_upto 1 rfl (by simp (disch := (apply Apart.mk; decide)) only [go_sem, Nat.reduceAdd, Nat.reduceLT, Nat.reduceMul, Nat.reduceLeDiff, Nat.lt_irrefl, Int.reduceToNat, Int.reduceLT, Int.reduceLE]; rfl) ?_
    obtain ⟨r2, eF6, hr⟩ := hr.bind
    try dsimp only at hr
    rcases xF28 : r2.1 with _ | y
    · rw [xF28] at hr
      dsimp only at hr
      refine w_call' (out := ?o_eF6a) (hp := ?p_eF6a) rfl (by simp (disch := (apply Apart.mk; decide)) only [go_sem, Nat.reduceAdd, Nat.reduceLT, Nat.reduceMul, Nat.reduceLeDiff, Nat.lt_irrefl, Int.reduceToNat, Int.reduceLT, Int.reduceLE, Option.getD_some]; rfl) (by simp (disch := (apply Apart.mk; decide)) only [go_sem, Nat.reduceAdd, Nat.reduceLT, Nat.reduceMul, Nat.reduceLeDiff, Nat.lt_irrefl, Int.reduceToNat, Int.reduceLT, Int.reduceLE, Option.getD_some]; rfl) (by simp (disch := (apply Apart.mk; decide)) only [go_sem, Nat.reduceAdd, Nat.reduceLT, Nat.reduceMul, Nat.reduceLeDiff, Nat.lt_irrefl, Int.reduceToNat, Int.reduceLT, Int.reduceLE, Option.getD_some]; rfl) ?c_eF6a ?d_eF6a ?_
      case c_eF6a => exact darray_Pack_runs_none g eF6 xF28
      case d_eF6a => rfl
      refine w_ops_end (by simp (disch := (apply Apart.mk; decide)) only [go_sem, Nat.reduceAdd, Nat.reduceLT, Nat.reduceMul, Nat.reduceLeDiff, Nat.lt_irrefl, Int.reduceToNat, Int.reduceLT, Int.reduceLE]; rfl) ?_
      refine (w_n ?_)
      refine w_seq ?_
      refine w_joinR (sj := ⟨[(1, .cv (.val (.sl (List.map eU b)))), (2, .cv (.val (.ptr (some (h.n + 0, 0))))), (7, .cv (.val (.ptr none))), (8, .cv (.val (.int .i64 r2.2))), (40, .cv (.val (.bool true)))], h.on [some (.cells [.val (.sl (List.map eB g.Final)), .val (.sl (List.map (eL eEdge) g.Edges))])]⟩) (w_ops rfl ?_) ?_
      · refine w_upto 3 rfl (by simp (disch := (apply Apart.mk; decide)) only [go_sem, Nat.reduceAdd, Nat.reduceLT, Nat.reduceMul, Nat.reduceLeDiff, Nat.lt_irrefl, Int.reduceToNat, Int.reduceLT, Int.reduceLE]; rfl) ?_
        rcases Bool.eq_false_or_eq_true (r2.2 != (0 : Int)) with cF7 | cF7
        · refine w_ops_end (by simp (disch := (apply Apart.mk; decide)) only [go_sem, Nat.reduceAdd, Nat.reduceLT, Nat.reduceMul, Nat.reduceLeDiff, Nat.lt_irrefl, Int.reduceToNat, Int.reduceLT, Int.reduceLE, cF7]; rfl) ?_
          exact w_k (To.cut hwf (Nat.le_refl _) rfl (by simp (disch := (apply Apart.mk; decide)) only [go_sem, Nat.reduceAdd, Nat.reduceLT, Nat.reduceMul, Nat.reduceLeDiff, Nat.lt_irrefl, Int.reduceToNat, Int.reduceLT, Int.reduceLE, cF5, cF7]))
        · refine w_ops_end (by simp (disch := (apply Apart.mk; decide)) only [go_sem, Nat.reduceAdd, Nat.reduceLT, Nat.reduceMul, Nat.reduceLeDiff, Nat.lt_irrefl, Int.reduceToNat, Int.reduceLT, Int.reduceLE, cF7]; rfl) ?_
          exact w_k (To.cut hwf (Nat.le_refl _) rfl (by simp (disch := (apply Apart.mk; decide)) only [go_sem, Nat.reduceAdd, Nat.reduceLT, Nat.reduceMul, Nat.reduceLeDiff, Nat.lt_irrefl, Int.reduceToNat, Int.reduceLT, Int.reduceLE, cF5, cF7]))
      refine w_cond (t := true) (by simp (disch := (apply Apart.mk; decide)) only [go_sem, Nat.reduceAdd, Nat.reduceLT, Nat.reduceMul, Nat.reduceLeDiff, Nat.lt_irrefl, Int.reduceToNat, Int.reduceLT, Int.reduceLE, cF5]) (fun _ => ?_) (fun cF8 => by cases cF8)
      refine w_joinR (sj := ⟨[(4, .cv (.val (.bool (r2.2 == (1 : Int)))))], h.on []⟩) (w_ops rfl ?_) ?_
      · refine w_upto 3 rfl (by simp (disch := (apply Apart.mk; decide)) only [go_sem, Nat.reduceAdd, Nat.reduceLT, Nat.reduceMul, Nat.reduceLeDiff, Nat.lt_irrefl, Int.reduceToNat, Int.reduceLT, Int.reduceLE]; rfl) ?_
        rcases Bool.eq_false_or_eq_true (r2.2 == (1 : Int)) with cF9 | cF9
        · refine w_ops_end (by simp (disch := (apply Apart.mk; decide)) only [go_sem, Nat.reduceAdd, Nat.reduceLT, Nat.reduceMul, Nat.reduceLeDiff, Nat.lt_irrefl, Int.reduceToNat, Int.reduceLT, Int.reduceLE, cF9]; rfl) ?_
          exact w_k (To.cut hwf (Nat.le_refl _) rfl (by simp (disch := (apply Apart.mk; decide)) only [go_sem, Nat.reduceAdd, Nat.reduceLT, Nat.reduceMul, Nat.reduceLeDiff, Nat.lt_irrefl, Int.reduceToNat, Int.reduceLT, Int.reduceLE, cF5, cF9]))
        · refine w_ops_end (by simp (disch := (apply Apart.mk; decide)) only [go_sem, Nat.reduceAdd, Nat.reduceLT, Nat.reduceMul, Nat.reduceLeDiff, Nat.lt_irrefl, Int.reduceToNat, Int.reduceLT, Int.reduceLE, cF9]; rfl) ?_
          exact w_k (To.cut hwf (Nat.le_refl _) rfl (by simp (disch := (apply Apart.mk; decide)) only [go_sem, Nat.reduceAdd, Nat.reduceLT, Nat.reduceMul, Nat.reduceLeDiff, Nat.lt_irrefl, Int.reduceToNat, Int.reduceLT, Int.reduceLE, cF5, cF9]))
      refine w_ret ?_
      obtain rfl := hD _ hr
      exact (w_tr (w_endR (To.cut (os' := []) (sl := [(4, .cv (.val (.bool (r2.2 == (1 : Int)))))]) hwf (Nat.le_refl _) rfl (by simp (disch := (apply Apart.mk; decide)) only [go_sem, Nat.reduceAdd, Nat.reduceLT, Nat.reduceMul, Nat.reduceLeDiff, Nat.lt_irrefl, Int.reduceToNat, Int.reduceLT, Int.reduceLE, cF5])) (by simp (disch := (apply Apart.mk; decide)) only [go_sem, Nat.reduceAdd, Nat.reduceLT, Nat.reduceMul, Nat.reduceLeDiff, Nat.lt_irrefl, Int.reduceToNat, Int.reduceLT, Int.reduceLE, Try.results8, results_data CT_gives8, resCell, resVal.eq_2, loadOp_sv, cF5]) ⟨rfl, on_nil hwf⟩))
    · rw [xF28] at hr
      dsimp only at hr
      refine w_call' (out := ?o_eF6b) (hp := ?p_eF6b) rfl (by simp (disch := (apply Apart.mk; decide)) only [go_sem, Nat.reduceAdd, Nat.reduceLT, Nat.reduceMul, Nat.reduceLeDiff, Nat.lt_irrefl, Int.reduceToNat, Int.reduceLT, Int.reduceLE, Option.getD_some]; rfl) (by simp (disch := (apply Apart.mk; decide)) only [go_sem, Nat.reduceAdd, Nat.reduceLT, Nat.reduceMul, Nat.reduceLeDiff, Nat.lt_irrefl, Int.reduceToNat, Int.reduceLT, Int.reduceLE, Option.getD_some]; rfl) (by simp (disch := (apply Apart.mk; decide)) only [go_sem, Nat.reduceAdd, Nat.reduceLT, Nat.reduceMul, Nat.reduceLeDiff, Nat.lt_irrefl, Int.reduceToNat, Int.reduceLT, Int.reduceLE, Option.getD_some]; rfl) ?c_eF6b ?d_eF6b ?_
      case c_eF6b => exact darray_Pack_runs_some g eF6 xF28
      case d_eF6b => rfl
      refine w_ops_end (by simp (disch := (apply Apart.mk; decide)) only [go_sem, Nat.reduceAdd, Nat.reduceLT, Nat.reduceMul, Nat.reduceLeDiff, Nat.lt_irrefl, Int.reduceToNat, Int.reduceLT, Int.reduceLE]; rfl) ?_
      refine (w_n ?_)
      refine w_seq ?_
      refine w_joinR (sj := ⟨[(1, .cv (.val (.sl (List.map eU b)))), (2, .cv (.val (.ptr (some (h.n + 0, 0))))), (7, .cv (.val (.ptr (some (h.n + 2, 0))))), (8, .cv (.val (.int .i64 r2.2))), (40, .cv (.val (.bool (r2.2 != (0 : Int)))))], h.on [some (.cells [.val (.sl (List.map eB g.Final)), .val (.sl (List.map (eL eEdge) g.Edges))]), none, some (.cells [.val (.sl (List.map eB y.graph.Final)), .val (.sl (List.map (eL eEdge) y.graph.Edges)), .row 3 (List.map eI y.base), .row 91 (List.map edarray_cell y.cells), .val (.sl (List.map eI y.count))])]⟩) (w_ops rfl ?_) ?_
      · refine w_upto 3 rfl (by simp (disch := (apply Apart.mk; decide)) only [go_sem, Nat.reduceAdd, Nat.reduceLT, Nat.reduceMul, Nat.reduceLeDiff, Nat.lt_irrefl, Int.reduceToNat, Int.reduceLT, Int.reduceLE]; rfl) ?_
        rcases Bool.eq_false_or_eq_true (r2.2 != (0 : Int)) with cF10 | cF10
        · refine w_ops_end (by simp (disch := (apply Apart.mk; decide)) only [go_sem, Nat.reduceAdd, Nat.reduceLT, Nat.reduceMul, Nat.reduceLeDiff, Nat.lt_irrefl, Int.reduceToNat, Int.reduceLT, Int.reduceLE, cF10]; rfl) ?_
          exact w_k (To.cut hwf (Nat.le_refl _) rfl (by simp (disch := (apply Apart.mk; decide)) only [go_sem, Nat.reduceAdd, Nat.reduceLT, Nat.reduceMul, Nat.reduceLeDiff, Nat.lt_irrefl, Int.reduceToNat, Int.reduceLT, Int.reduceLE, cF5, cF10]))
        · refine w_ops_end (by simp (disch := (apply Apart.mk; decide)) only [go_sem, Nat.reduceAdd, Nat.reduceLT, Nat.reduceMul, Nat.reduceLeDiff, Nat.lt_irrefl, Int.reduceToNat, Int.reduceLT, Int.reduceLE, cF10]; rfl) ?_
          exact w_k (To.cut hwf (Nat.le_refl _) rfl (by simp (disch := (apply Apart.mk; decide)) only [go_sem, Nat.reduceAdd, Nat.reduceLT, Nat.reduceMul, Nat.reduceLeDiff, Nat.lt_irrefl, Int.reduceToNat, Int.reduceLT, Int.reduceLE, cF5, cF10]))
      refine w_condH (by simp (disch := (apply Apart.mk; decide)) only [go_sem, Nat.reduceAdd, Nat.reduceLT, Nat.reduceMul, Nat.reduceLeDiff, Nat.lt_irrefl, Int.reduceToNat, Int.reduceLT, Int.reduceLE, cF5]) hr (fun cF11 hr => ?_) (fun cF11 hr => ?_)
      · refine w_joinR (sj := ⟨[(4, .cv (.val (.bool false)))], h.on []⟩) (w_ops rfl ?_) ?_
        · refine w_upto 3 rfl (by simp (disch := (apply Apart.mk; decide)) only [go_sem, Nat.reduceAdd, Nat.reduceLT, Nat.reduceMul, Nat.reduceLeDiff, Nat.lt_irrefl, Int.reduceToNat, Int.reduceLT, Int.reduceLE]; rfl) ?_
          rcases Bool.eq_false_or_eq_true (r2.2 == (1 : Int)) with cF12 | cF12
          · refine w_ops_end (by simp (disch := (apply Apart.mk; decide)) only [go_sem, Nat.reduceAdd, Nat.reduceLT, Nat.reduceMul, Nat.reduceLeDiff, Nat.lt_irrefl, Int.reduceToNat, Int.reduceLT, Int.reduceLE, cF12]; rfl) ?_
            exact w_k (To.cut hwf (Nat.le_refl _) rfl (by simp (disch := (apply Apart.mk; decide)) only [go_sem, Nat.reduceAdd, Nat.reduceLT, Nat.reduceMul, Nat.reduceLeDiff, Nat.lt_irrefl, Int.reduceToNat, Int.reduceLT, Int.reduceLE, cF5, cF11, cF12]))
          · refine w_ops_end (by simp (disch := (apply Apart.mk; decide)) only [go_sem, Nat.reduceAdd, Nat.reduceLT, Nat.reduceMul, Nat.reduceLeDiff, Nat.lt_irrefl, Int.reduceToNat, Int.reduceLT, Int.reduceLE, cF12]; rfl) ?_
            exact w_k (To.cut hwf (Nat.le_refl _) rfl (by simp (disch := (apply Apart.mk; decide)) only [go_sem, Nat.reduceAdd, Nat.reduceLT, Nat.reduceMul, Nat.reduceLeDiff, Nat.lt_irrefl, Int.reduceToNat, Int.reduceLT, Int.reduceLE, cF5, cF11, cF12]))
        refine w_ret ?_
        obtain rfl := hD _ hr
        exact (w_tr (w_endR (To.cut (os' := []) (sl := [(4, .cv (.val (.bool false)))]) hwf (Nat.le_refl _) rfl (by simp (disch := (apply Apart.mk; decide)) only [go_sem, Nat.reduceAdd, Nat.reduceLT, Nat.reduceMul, Nat.reduceLeDiff, Nat.lt_irrefl, Int.reduceToNat, Int.reduceLT, Int.reduceLE, cF5, cF11])) (by simp (disch := (apply Apart.mk; decide)) only [go_sem, Nat.reduceAdd, Nat.reduceLT, Nat.reduceMul, Nat.reduceLeDiff, Nat.lt_irrefl, Int.reduceToNat, Int.reduceLT, Int.reduceLE, Try.results8, results_data CT_gives8, resCell, resVal.eq_2, loadOp_sv, cF5, cF11]) ⟨rfl, on_nil hwf⟩))
      · refine w_skip ?_
        refine (w_n ?_)
        refine w_seq ?_
        refine w_ops rfl ?_
        refine w_upto 1 rfl (by simp (disch := (apply Apart.mk; decide)) only [go_sem, Nat.reduceAdd, Nat.reduceLT, Nat.reduceMul, Nat.reduceLeDiff, Nat.lt_irrefl, Int.reduceToNat, Int.reduceLT, Int.reduceLE]; rfl) ?_
        obtain ⟨r3, eF13, hr⟩ := hr.bind
        refine w_call' (out := ?o_eF13) (hp := ?p_eF13) rfl (by simp (disch := (apply Apart.mk; decide)) only [go_sem, Nat.reduceAdd, Nat.reduceLT, Nat.reduceMul, Nat.reduceLeDiff, Nat.lt_irrefl, Int.reduceToNat, Int.reduceLT, Int.reduceLE, Option.getD_some]; rfl) (by simp (disch := (apply Apart.mk; decide)) only [go_sem, Nat.reduceAdd, Nat.reduceLT, Nat.reduceMul, Nat.reduceLeDiff, Nat.lt_irrefl, Int.reduceToNat, Int.reduceLT, Int.reduceLE, Option.getD_some]; rfl) (by simp (disch := (apply Apart.mk; decide)) only [go_sem, Nat.reduceAdd, Nat.reduceLT, Nat.reduceMul, Nat.reduceLeDiff, Nat.lt_irrefl, Int.reduceToNat, Int.reduceLT, Int.reduceLE, Option.getD_some]; rfl) ?c_eF13 ?d_eF13 ?_
        case c_eF13 => (refine darray_Array_Start_runs y (h.n + 2) ?_ eF13; (simp (disch := (apply Apart.mk; decide)) only [go_sem, Nat.reduceAdd, Nat.reduceLT, Nat.reduceMul, Nat.reduceLeDiff, Nat.lt_irrefl, Int.reduceToNat, Int.reduceLT, Int.reduceLE]))
        case d_eF13 => rfl
        refine w_ops_end (by simp (disch := (apply Apart.mk; decide)) only [go_sem, Nat.reduceAdd, Nat.reduceLT, Nat.reduceMul, Nat.reduceLeDiff, Nat.lt_irrefl, Int.reduceToNat, Int.reduceLT, Int.reduceLE]; rfl) ?_
        refine (w_n ?_)
        refine w_seq ?_
        refine w_region rfl (by simp (disch := (apply Apart.mk; decide)) only [go_sem, Nat.reduceAdd, Nat.reduceLT, Nat.reduceMul, Nat.reduceLeDiff, Nat.lt_irrefl, Int.reduceToNat, Int.reduceLT, Int.reduceLE, cF5, cF11]; rfl) ?_
        refine (w_n ?_)
        refine w_seq ?_
        refine w_seq ?_
        refine w_region rfl (by simp (disch := (apply Apart.mk; decide)) only [go_sem, Nat.reduceAdd, Nat.reduceLT, Nat.reduceMul, Nat.reduceLeDiff, Nat.lt_irrefl, Int.reduceToNat, Int.reduceLT, Int.reduceLE, cF5, cF11]; rfl) ?_
        refine (w_n ?_)
        refine w_K (D := D) (fun xX : (Int × Bool) => ⟨[(1, .cv (.val (.sl (List.map eU b)))), (2, .cv (.val (.ptr (some (h.n + 0, 0))))), (7, .cv (.val (.ptr (some (h.n + 2, 0))))), (9, .cv (.val (.int .i64 xX.1))), (10, .cv (.val (.bool xX.2)))], h.on [some (.cells [.val (.sl (List.map eB g.Final)), .val (.sl (List.map (eL eEdge) g.Edges))]), none, some (.cells [.val (.sl (List.map eB y.graph.Final)), .val (.sl (List.map (eL eEdge) y.graph.Edges)), .row 3 (List.map eI y.base), .row 91 (List.map edarray_cell y.cells), .val (.sl (List.map eI y.count))])]⟩) (fun xX : (Int × Bool) => scansionlaw18_DarraySteps.k1 g b y xX.1 xX.2) (fun xX s' hr ht => ?_) ?_
        · obtain ⟨s, is⟩ := xX
          dsimp only [scansionlaw18_DarraySteps.k1] at hr ht
          refine (w_nT ht ?_)
          obtain ⟨ends, vF16, hr⟩ := hr.bind
          refine w_joinR (sj := ⟨[(1, .cv (.val (.sl (List.map eU b)))), (2, .cv (.val (.ptr (some (h.n + 0, 0))))), (7, .cv (.val (.ptr (some (h.n + 2, 0))))), (12, .cv (.val (.bool ends)))], h.on [some (.cells [.val (.sl (List.map eB g.Final)), .val (.sl (List.map (eL eEdge) g.Edges))]), none, some (.cells [.val (.sl (List.map eB y.graph.Final)), .val (.sl (List.map (eL eEdge) y.graph.Edges)), .row 3 (List.map eI y.base), .row 91 (List.map edarray_cell y.cells), .val (.sl (List.map eI y.count))])]⟩) (w_ops rfl ?_) ?_
          · have hr := Holds.intro (D := fun z => z = ends) vF16 rfl
            refine w_upto 2 rfl (by simp (disch := (apply Apart.mk; decide)) only [go_sem, Nat.reduceAdd, Nat.reduceLT, Nat.reduceMul, Nat.reduceLeDiff, Nat.lt_irrefl, Int.reduceToNat, Int.reduceLT, Int.reduceLE]; rfl) ?_
            rcases hr.ite with ⟨cF14, hr⟩ | ⟨cF14, hr⟩
            · refine w_upto 2 rfl (by simp (disch := (apply Apart.mk; decide)) only [go_sem, Nat.reduceAdd, Nat.reduceLT, Nat.reduceMul, Nat.reduceLeDiff, Nat.lt_irrefl, Int.reduceToNat, Int.reduceLT, Int.reduceLE, cF14]; rfl) ?_
              obtain ⟨r4, eF15, hr⟩ := hr.bind
              refine w_call' (out := ?o_eF15) (hp := ?p_eF15) (by simp (disch := (apply Apart.mk; decide)) only [go_sem, Nat.reduceAdd, Nat.reduceLT, Nat.reduceMul, Nat.reduceLeDiff, Nat.lt_irrefl, Int.reduceToNat, Int.reduceLT, Int.reduceLE, Option.getD_some, cF14]) (by simp (disch := (apply Apart.mk; decide)) only [go_sem, Nat.reduceAdd, Nat.reduceLT, Nat.reduceMul, Nat.reduceLeDiff, Nat.lt_irrefl, Int.reduceToNat, Int.reduceLT, Int.reduceLE, Option.getD_some, cF14]; rfl) (by simp (disch := (apply Apart.mk; decide)) only [go_sem, Nat.reduceAdd, Nat.reduceLT, Nat.reduceMul, Nat.reduceLeDiff, Nat.lt_irrefl, Int.reduceToNat, Int.reduceLT, Int.reduceLE, Option.getD_some, cF14]; rfl) (by simp (disch := (apply Apart.mk; decide)) only [go_sem, Nat.reduceAdd, Nat.reduceLT, Nat.reduceMul, Nat.reduceLeDiff, Nat.lt_irrefl, Int.reduceToNat, Int.reduceLT, Int.reduceLE, Option.getD_some, cF14]; rfl) ?c_eF15 ?d_eF15 ?_
              case c_eF15 => (refine darray_Array_Final_runs y s (h.n + 2) ?_ eF15; (simp (disch := (apply Apart.mk; decide)) only [go_sem, Nat.reduceAdd, Nat.reduceLT, Nat.reduceMul, Nat.reduceLeDiff, Nat.lt_irrefl, Int.reduceToNat, Int.reduceLT, Int.reduceLE]))
              case d_eF15 => rfl
              refine w_ops_end (by simp (disch := (apply Apart.mk; decide)) only [go_sem, Nat.reduceAdd, Nat.reduceLT, Nat.reduceMul, Nat.reduceLeDiff, Nat.lt_irrefl, Int.reduceToNat, Int.reduceLT, Int.reduceLE, cF14]; rfl) ?_
              obtain rfl : _ = ends := hr
              exact w_k (To.cut hwf (Nat.le_refl _) rfl (by simp (disch := (apply Apart.mk; decide)) only [go_sem, Nat.reduceAdd, Nat.reduceLT, Nat.reduceMul, Nat.reduceLeDiff, Nat.lt_irrefl, Int.reduceToNat, Int.reduceLT, Int.reduceLE, cF5, cF11, cF14]))
            · refine w_upto 2 rfl (by simp (disch := (apply Apart.mk; decide)) only [go_sem, Nat.reduceAdd, Nat.reduceLT, Nat.reduceMul, Nat.reduceLeDiff, Nat.lt_irrefl, Int.reduceToNat, Int.reduceLT, Int.reduceLE, cF14]; rfl) ?_
              refine w_off (by simp (disch := (apply Apart.mk; decide)) only [go_sem, Nat.reduceAdd, Nat.reduceLT, Nat.reduceMul, Nat.reduceLeDiff, Nat.lt_irrefl, Int.reduceToNat, Int.reduceLT, Int.reduceLE, cF14]) ?_
              refine w_ops_end (by simp (disch := (apply Apart.mk; decide)) only [go_sem, Nat.reduceAdd, Nat.reduceLT, Nat.reduceMul, Nat.reduceLeDiff, Nat.lt_irrefl, Int.reduceToNat, Int.reduceLT, Int.reduceLE, cF14]; rfl) ?_
              obtain rfl : _ = ends := hr
              exact w_k (To.cut hwf (Nat.le_refl _) rfl (by simp (disch := (apply Apart.mk; decide)) only [go_sem, Nat.reduceAdd, Nat.reduceLT, Nat.reduceMul, Nat.reduceLeDiff, Nat.lt_irrefl, Int.reduceToNat, Int.reduceLT, Int.reduceLE, cF5, cF11, cF14]))
          refine w_seq ?_
          refine w_seq ?_
          refine w_ops rfl ?_
          refine w_upto 4 rfl (by simp (disch := (apply Apart.mk; decide)) only [go_sem, Nat.reduceAdd, Nat.reduceLT, Nat.reduceMul, Nat.reduceLeDiff, Nat.lt_irrefl, Int.reduceToNat, Int.reduceLT, Int.reduceLE]; rfl) ?_
          obtain ⟨r5, eF17, hr⟩ := hr.bind
          refine w_call' (out := ?o_eF17) (hp := ?p_eF17) rfl (by simp (disch := (apply Apart.mk; decide)) only [go_sem, Nat.reduceAdd, Nat.reduceLT, Nat.reduceMul, Nat.reduceLeDiff, Nat.lt_irrefl, Int.reduceToNat, Int.reduceLT, Int.reduceLE, Option.getD_some]; rfl) (by simp (disch := (apply Apart.mk; decide)) only [go_sem, Nat.reduceAdd, Nat.reduceLT, Nat.reduceMul, Nat.reduceLeDiff, Nat.lt_irrefl, Int.reduceToNat, Int.reduceLT, Int.reduceLE, Option.getD_some]; rfl) (by simp (disch := (apply Apart.mk; decide)) only [go_sem, Nat.reduceAdd, Nat.reduceLT, Nat.reduceMul, Nat.reduceLeDiff, Nat.lt_irrefl, Int.reduceToNat, Int.reduceLT, Int.reduceLE, Option.getD_some]; rfl) ?c_eF17 ?d_eF17 ?_
          case c_eF17 => exact scansionref17_Has_runs g b eF17
          case d_eF17 => rfl
          refine w_ops_end (by simp (disch := (apply Apart.mk; decide)) only [go_sem, Nat.reduceAdd, Nat.reduceLT, Nat.reduceMul, Nat.reduceLeDiff, Nat.lt_irrefl, Int.reduceToNat, Int.reduceLT, Int.reduceLE]; rfl) ?_
          refine (w_n ?_)
          refine w_condH (by simp (disch := (apply Apart.mk; decide)) only [go_sem, Nat.reduceAdd, Nat.reduceLT, Nat.reduceMul, Nat.reduceLeDiff, Nat.lt_irrefl, Int.reduceToNat, Int.reduceLT, Int.reduceLE, cF5, cF11]) hr (fun cF18 hr => ?_) (fun cF18 hr => ?_)
          · refine w_seq ?_
            refine w_region rfl (by simp (disch := (apply Apart.mk; decide)) only [go_sem, Nat.reduceAdd, Nat.reduceLT, Nat.reduceMul, Nat.reduceLeDiff, Nat.lt_irrefl, Int.reduceToNat, Int.reduceLT, Int.reduceLE, cF5, cF11, cF18]; rfl) ?_
            refine (w_n ?_)
            refine w_ret ?_
            obtain rfl := hD _ hr
            exact (w_tr (w_endR (To.cut (os' := []) (sl := [(4, .cv (.val (.bool false)))]) hwf (Nat.le_refl _) rfl (by simp (disch := (apply Apart.mk; decide)) only [go_sem, Nat.reduceAdd, Nat.reduceLT, Nat.reduceMul, Nat.reduceLeDiff, Nat.lt_irrefl, Int.reduceToNat, Int.reduceLT, Int.reduceLE, cF5, cF11, cF18])) (by simp (disch := (apply Apart.mk; decide)) only [go_sem, Nat.reduceAdd, Nat.reduceLT, Nat.reduceMul, Nat.reduceLeDiff, Nat.lt_irrefl, Int.reduceToNat, Int.reduceLT, Int.reduceLE, Try.results8, results_data CT_gives8, resCell, resVal.eq_2, loadOp_sv, cF5, cF11, cF18]) ⟨rfl, on_nil hwf⟩))
          · refine w_skip ?_
            refine (w_n ?_)
            refine w_seq ?_
            refine w_seq ?_
            refine w_ops rfl ?_
            refine w_upto 1 rfl (by simp (disch := (apply Apart.mk; decide)) only [go_sem, Nat.reduceAdd, Nat.reduceLT, Nat.reduceMul, Nat.reduceLeDiff, Nat.lt_irrefl, Int.reduceToNat, Int.reduceLT, Int.reduceLE]; rfl) ?_
            obtain ⟨r6, eF19, hr⟩ := hr.bind
            refine w_call' (out := ?o_eF19) (hp := ?p_eF19) rfl (by simp (disch := (apply Apart.mk; decide)) only [go_sem, Nat.reduceAdd, Nat.reduceLT, Nat.reduceMul, Nat.reduceLeDiff, Nat.lt_irrefl, Int.reduceToNat, Int.reduceLT, Int.reduceLE, Option.getD_some]; rfl) (by simp (disch := (apply Apart.mk; decide)) only [go_sem, Nat.reduceAdd, Nat.reduceLT, Nat.reduceMul, Nat.reduceLeDiff, Nat.lt_irrefl, Int.reduceToNat, Int.reduceLT, Int.reduceLE, Option.getD_some]; rfl) (by simp (disch := (apply Apart.mk; decide)) only [go_sem, Nat.reduceAdd, Nat.reduceLT, Nat.reduceMul, Nat.reduceLeDiff, Nat.lt_irrefl, Int.reduceToNat, Int.reduceLT, Int.reduceLE, Option.getD_some]; rfl) ?c_eF19 ?d_eF19 ?_
            case c_eF19 => (refine darray_Array_Words_runs y (h.n + 2) ?_ eF19; (simp (disch := (apply Apart.mk; decide)) only [go_sem, Nat.reduceAdd, Nat.reduceLT, Nat.reduceMul, Nat.reduceLeDiff, Nat.lt_irrefl, Int.reduceToNat, Int.reduceLT, Int.reduceLE]))
            case d_eF19 => rfl
            refine w_ops_end (by simp (disch := (apply Apart.mk; decide)) only [go_sem, Nat.reduceAdd, Nat.reduceLT, Nat.reduceMul, Nat.reduceLeDiff, Nat.lt_irrefl, Int.reduceToNat, Int.reduceLT, Int.reduceLE]; rfl) ?_
            refine (w_n ?_)
            refine w_condH (by simp (disch := (apply Apart.mk; decide)) only [go_sem, Nat.reduceAdd, Nat.reduceLT, Nat.reduceMul, Nat.reduceLeDiff, Nat.lt_irrefl, Int.reduceToNat, Int.reduceLT, Int.reduceLE, cF5, cF11, cF18]) hr (fun cF20 hr => ?_) (fun cF20 hr => ?_)
            · refine w_seq ?_
              refine w_region rfl (by simp (disch := (apply Apart.mk; decide)) only [go_sem, Nat.reduceAdd, Nat.reduceLT, Nat.reduceMul, Nat.reduceLeDiff, Nat.lt_irrefl, Int.reduceToNat, Int.reduceLT, Int.reduceLE, cF5, cF11, cF18, cF20]; rfl) ?_
              refine (w_n ?_)
              refine w_ret ?_
              obtain rfl := hD _ hr
              exact (w_tr (w_endR (To.cut (os' := []) (sl := [(4, .cv (.val (.bool true)))]) hwf (Nat.le_refl _) rfl (by simp (disch := (apply Apart.mk; decide)) only [go_sem, Nat.reduceAdd, Nat.reduceLT, Nat.reduceMul, Nat.reduceLeDiff, Nat.lt_irrefl, Int.reduceToNat, Int.reduceLT, Int.reduceLE, cF5, cF11, cF18, cF20])) (by simp (disch := (apply Apart.mk; decide)) only [go_sem, Nat.reduceAdd, Nat.reduceLT, Nat.reduceMul, Nat.reduceLeDiff, Nat.lt_irrefl, Int.reduceToNat, Int.reduceLT, Int.reduceLE, Try.results8, results_data CT_gives8, resCell, resVal.eq_2, loadOp_sv, cF5, cF11, cF18, cF20]) ⟨rfl, on_nil hwf⟩))
            · refine w_skip ?_
              refine (w_n ?_)
              refine w_seq ?_
              refine w_ops rfl ?_
              refine w_upto 2 rfl (by simp (disch := (apply Apart.mk; decide)) only [go_sem, Nat.reduceAdd, Nat.reduceLT, Nat.reduceMul, Nat.reduceLeDiff, Nat.lt_irrefl, Int.reduceToNat, Int.reduceLT, Int.reduceLE]; rfl) ?_
              obtain ⟨r7, eF21, hr⟩ := hr.bind
              refine w_call' (out := ?o_eF21) (hp := ?p_eF21) rfl (by simp (disch := (apply Apart.mk; decide)) only [go_sem, Nat.reduceAdd, Nat.reduceLT, Nat.reduceMul, Nat.reduceLeDiff, Nat.lt_irrefl, Int.reduceToNat, Int.reduceLT, Int.reduceLE, Option.getD_some]; rfl) (by simp (disch := (apply Apart.mk; decide)) only [go_sem, Nat.reduceAdd, Nat.reduceLT, Nat.reduceMul, Nat.reduceLeDiff, Nat.lt_irrefl, Int.reduceToNat, Int.reduceLT, Int.reduceLE, Option.getD_some]; rfl) (by simp (disch := (apply Apart.mk; decide)) only [go_sem, Nat.reduceAdd, Nat.reduceLT, Nat.reduceMul, Nat.reduceLeDiff, Nat.lt_irrefl, Int.reduceToNat, Int.reduceLT, Int.reduceLE, Option.getD_some]; rfl) ?c_eF21 ?d_eF21 ?_
              case c_eF21 => (refine darray_Array_Number_runs y b (h.n + 2) ?_ eF21; (simp (disch := (apply Apart.mk; decide)) only [go_sem, Nat.reduceAdd, Nat.reduceLT, Nat.reduceMul, Nat.reduceLeDiff, Nat.lt_irrefl, Int.reduceToNat, Int.reduceLT, Int.reduceLE]))
              case d_eF21 => rfl
              refine w_ops_end (by simp (disch := (apply Apart.mk; decide)) only [go_sem, Nat.reduceAdd, Nat.reduceLT, Nat.reduceMul, Nat.reduceLeDiff, Nat.lt_irrefl, Int.reduceToNat, Int.reduceLT, Int.reduceLE]; rfl) ?_
              refine (w_n ?_)
              refine w_seq ?_
              refine w_region rfl (by simp (disch := (apply Apart.mk; decide)) only [go_sem, Nat.reduceAdd, Nat.reduceLT, Nat.reduceMul, Nat.reduceLeDiff, Nat.lt_irrefl, Int.reduceToNat, Int.reduceLT, Int.reduceLE, cF5, cF11, cF18, cF20]; rfl) ?_
              refine (w_n ?_)
              refine w_ret ?_
              obtain rfl := hD _ hr
              exact (w_endR (To.cut (os' := []) (sl := [(4, .cv (.val (.bool (r7.2 == ends))))]) hwf (Nat.le_refl _) rfl (by simp (disch := (apply Apart.mk; decide)) only [go_sem, Nat.reduceAdd, Nat.reduceLT, Nat.reduceMul, Nat.reduceLeDiff, Nat.lt_irrefl, Int.reduceToNat, Int.reduceLT, Int.reduceLE, cF5, cF11, cF18, cF20])) (by simp (disch := (apply Apart.mk; decide)) only [go_sem, Nat.reduceAdd, Nat.reduceLT, Nat.reduceMul, Nat.reduceLeDiff, Nat.lt_irrefl, Int.reduceToNat, Int.reduceLT, Int.reduceLE, Try.results8, results_data CT_gives8, resCell, resVal.eq_2, loadOp_sv, cF5, cF11, cF18, cF20]) ⟨rfl, on_nil hwf⟩)
        · refine w_block ?_
          refine w_Loop (fun xX : (Int × Bool × Int) => ⟨[(1, .cv (.val (.sl (List.map eU b)))), (2, .cv (.val (.ptr (some (h.n + 0, 0))))), (7, .cv (.val (.ptr (some (h.n + 2, 0))))), (9, .cv (.val (.int .i64 xX.1))), (10, .cv (.val (.bool xX.2.1))), (11, .cv (.val (.int .i64 xX.2.2)))], h.on [some (.cells [.val (.sl (List.map eB g.Final)), .val (.sl (List.map (eL eEdge) g.Edges))]), none, some (.cells [.val (.sl (List.map eB y.graph.Final)), .val (.sl (List.map (eL eEdge) y.graph.Edges)), .row 3 (List.map eI y.base), .row 91 (List.map edarray_cell y.cells), .val (.sl (List.map eI y.count))])]⟩) hr (To.cut hwf (Nat.le_refl _) rfl (by simp (disch := (apply Apart.mk; decide)) only [go_sem, Nat.reduceAdd, Nat.reduceLT, Nat.reduceMul, Nat.reduceLeDiff, Nat.lt_irrefl, Int.reduceToNat, Int.reduceLT, Int.reduceLE, cF5, cF11])) (fun W1 xX hr => ?_)
          obtain ⟨s1, is1, i⟩ := xX
          dsimp only [scansionlaw18_DarraySteps.b1] at hr
          refine w_seq ?_
          refine w_joinR (sj := ⟨[(1, .cv (.val (.sl (List.map eU b)))), (2, .cv (.val (.ptr (some (h.n + 0, 0))))), (7, .cv (.val (.ptr (some (h.n + 2, 0))))), (9, .cv (.val (.int .i64 s1))), (10, .cv (.val (.bool is1))), (11, .cv (.val (.int .i64 i))), (55, .cv (.val (.bool ((decide (i < (b.length : Int))) && is1))))], h.on [some (.cells [.val (.sl (List.map eB g.Final)), .val (.sl (List.map (eL eEdge) g.Edges))]), none, some (.cells [.val (.sl (List.map eB y.graph.Final)), .val (.sl (List.map (eL eEdge) y.graph.Edges)), .row 3 (List.map eI y.base), .row 91 (List.map edarray_cell y.cells), .val (.sl (List.map eI y.count))])]⟩) (w_ops rfl ?_) ?_
          · refine w_upto 5 rfl (by simp (disch := (apply Apart.mk; decide)) only [go_sem, Nat.reduceAdd, Nat.reduceLT, Nat.reduceMul, Nat.reduceLeDiff, Nat.lt_irrefl, Int.reduceToNat, Int.reduceLT, Int.reduceLE]; rfl) ?_
            rcases Bool.eq_false_or_eq_true (decide (i < (b.length : Int))) with cF22 | cF22
            · refine w_ops_end (by simp (disch := (apply Apart.mk; decide)) only [go_sem, Nat.reduceAdd, Nat.reduceLT, Nat.reduceMul, Nat.reduceLeDiff, Nat.lt_irrefl, Int.reduceToNat, Int.reduceLT, Int.reduceLE, cF22]; rfl) ?_
              exact w_k (To.cut hwf (Nat.le_refl _) rfl (by simp (disch := (apply Apart.mk; decide)) only [go_sem, Nat.reduceAdd, Nat.reduceLT, Nat.reduceMul, Nat.reduceLeDiff, Nat.lt_irrefl, Int.reduceToNat, Int.reduceLT, Int.reduceLE, cF5, cF11, cF22]))
            · refine w_ops_end (by simp (disch := (apply Apart.mk; decide)) only [go_sem, Nat.reduceAdd, Nat.reduceLT, Nat.reduceMul, Nat.reduceLeDiff, Nat.lt_irrefl, Int.reduceToNat, Int.reduceLT, Int.reduceLE, cF22]; rfl) ?_
              exact w_k (To.cut hwf (Nat.le_refl _) rfl (by simp (disch := (apply Apart.mk; decide)) only [go_sem, Nat.reduceAdd, Nat.reduceLT, Nat.reduceMul, Nat.reduceLeDiff, Nat.lt_irrefl, Int.reduceToNat, Int.reduceLT, Int.reduceLE, cF5, cF11, cF22]))
          refine w_condH (by simp (disch := (apply Apart.mk; decide)) only [go_sem, Nat.reduceAdd, Nat.reduceLT, Nat.reduceMul, Nat.reduceLeDiff, Nat.lt_irrefl, Int.reduceToNat, Int.reduceLT, Int.reduceLE, cF5, cF11]) hr (fun cF23 hr => ?_) (fun cF23 hr => ?_)
          · refine w_skip ?_
            refine (w_n ?_)
            refine w_seq ?_
            refine w_block ?_
            refine w_ops rfl ?_
            obtain ⟨n, nF24, eF25, gF26, hr⟩ := hr.idx
            refine w_upto 6 rfl (by simp (disch := (apply Apart.mk; decide)) only [go_sem, Nat.reduceAdd, Nat.reduceLT, Nat.reduceMul, Nat.reduceLeDiff, Nat.lt_irrefl, Int.reduceToNat, Int.reduceLT, Int.reduceLE, nF24, eF25, gF26]; rfl) ?_
            obtain ⟨r8, eF27, hr⟩ := hr.bind
            refine w_call' (out := ?o_eF27) (hp := ?p_eF27) rfl (by simp (disch := (apply Apart.mk; decide)) only [go_sem, Nat.reduceAdd, Nat.reduceLT, Nat.reduceMul, Nat.reduceLeDiff, Nat.lt_irrefl, Int.reduceToNat, Int.reduceLT, Int.reduceLE, Option.getD_some, nF24, eF25, gF26]; rfl) (by simp (disch := (apply Apart.mk; decide)) only [go_sem, Nat.reduceAdd, Nat.reduceLT, Nat.reduceMul, Nat.reduceLeDiff, Nat.lt_irrefl, Int.reduceToNat, Int.reduceLT, Int.reduceLE, Option.getD_some, nF24, eF25, gF26]; rfl) (by simp (disch := (apply Apart.mk; decide)) only [go_sem, Nat.reduceAdd, Nat.reduceLT, Nat.reduceMul, Nat.reduceLeDiff, Nat.lt_irrefl, Int.reduceToNat, Int.reduceLT, Int.reduceLE, Option.getD_some, nF24, eF25, gF26]; rfl) ?c_eF27 ?d_eF27 ?_
            case c_eF27 => (refine darray_Array_Step_runs y s1 n (h.n + 2) ?_ eF27; (simp (disch := (apply Apart.mk; decide)) only [go_sem, Nat.reduceAdd, Nat.reduceLT, Nat.reduceMul, Nat.reduceLeDiff, Nat.lt_irrefl, Int.reduceToNat, Int.reduceLT, Int.reduceLE]))
            case d_eF27 => rfl
            refine w_ops_end (by simp (disch := (apply Apart.mk; decide)) only [go_sem, Nat.reduceAdd, Nat.reduceLT, Nat.reduceMul, Nat.reduceLeDiff, Nat.lt_irrefl, Int.reduceToNat, Int.reduceLT, Int.reduceLE, nF24, eF25, gF26]; rfl) ?_
            refine (w_bn (w_n ?_))
            refine w_region rfl (by simp (disch := (apply Apart.mk; decide)) only [go_sem, Nat.reduceAdd, Nat.reduceLT, Nat.reduceMul, Nat.reduceLeDiff, Nat.lt_irrefl, Int.reduceToNat, Int.reduceLT, Int.reduceLE, cF5, cF11, cF23]; rfl) ?_
            exact (w_k ⟨(r8.1, r8.2, (IntKind.i64.wrap (i + (1 : Int)))), hr, (To.cut hwf (Nat.le_refl _) rfl (by simp (disch := (apply Apart.mk; decide)) only [go_sem, Nat.reduceAdd, Nat.reduceLT, Nat.reduceMul, Nat.reduceLeDiff, Nat.lt_irrefl, Int.reduceToNat, Int.reduceLT, Int.reduceLE, cF5, cF11, cF23]))⟩)
          · refine w_exit ?_
            exact (w_te (w_te (w_bx (w_k ⟨(s1, is1), (hr).map, (To.cut hwf (Nat.le_refl _) rfl (by simp (disch := (apply Apart.mk; decide)) only [go_sem, Nat.reduceAdd, Nat.reduceLT, Nat.reduceMul, Nat.reduceLeDiff, Nat.lt_irrefl, Int.reduceToNat, Int.reduceLT, Int.reduceLE, cF5, cF11, cF23]))⟩))))
end Go.Val

/- part P1 -/
/- Plain lemmas: loops that are read off. -/
namespace Go.Val
set_option linter.unusedVariables false

theorem w64 {n : Int} (h1 : -9223372036854775808 ≤ n) (h2 : n ≤ 9223372036854775807) : IntKind.i64.wrap n = n := by rw [IntKind.wrap_i64]; omega
theorem w64s {i : Nat} (h : i < 9223372036854775807) : IntKind.i64.wrap ((i : Int) + 1) = ((i + 1 : Nat) : Int) := by rw [w64 (by omega) (by omega)]; omega
theorem idx_nat {α : Type} {xs : List α} {i : Nat} : idx xs (i : Int) = xs[i]? := by
  unfold idx; rw [if_neg (by omega)]; simp
theorem idx_some {α : Type} {xs : List α} {i : Int} {x : α} (h0 : 0 ≤ i) (h : xs[i.toNat]? = some x) : idx xs i = some x := by
  unfold idx; rw [if_neg (by omega)]; exact h
theorem room_ok {sz n : Nat} (h : n * sz ≤ 140737488355328) : room sz n = some () := by
  unfold room roomOf; rw [if_pos h]
theorem roomS_ok {n : Nat} (h : n ≤ 9223372036854775807) : roomS n = some () := by
  unfold roomS; rw [if_neg (by simp [IntKind.max, IntKind.signed, IntKind.bits]; omega)]
theorem mk_ok {α : Type} {sz : Nat} {z : α} {n : Nat} (h : n * sz ≤ 140737488355328) : mk sz z (n : Int) = some (List.replicate n z) := by
  unfold mk roomOf; rw [if_pos ⟨by omega, by simpa using h⟩]; simp

theorem snoc_ind {α : Type} {P : List α → Prop} (h0 : P []) (h1 : ∀ l x, P l → P (l ++ [x])) (l : List α) : P l := by
  have key : ∀ l : List α, P l.reverse := by
    intro l
    induction l with
    | nil => exact h0
    | cons x l ih => rw [List.reverse_cons]; exact h1 _ _ ih
  have := key l.reverse
  rwa [List.reverse_reverse] at this
/-- Rounds that go on, one by one. -/
theorem Loop_run {σ ρ : Type} {b : σ → Option (Step σ ρ)} (st : Nat → σ) {i n : Nat} (hin : i ≤ n) (h : ∀ j, i ≤ j → j < n → b (st j) = some (.next (st (j + 1)))) : Loop b (st i) = Loop b (st n) := by
  induction n with
  | zero => obtain rfl : i = 0 := by omega
            rfl
  | succ n ih =>
    by_cases e : i = n + 1
    · rw [e]
    · rw [ih (by omega) fun j h1 h2 => h j h1 (by omega)]
      exact Loop_next (h n (by omega) (by omega))
theorem Loop_int {ρ : Type} {b : Int → Option (Step Int ρ)} {i n : Nat} (hin : i ≤ n) (h : ∀ j : Nat, i ≤ j → j < n → b j = some (.next ((j + 1 : Nat) : Int))) : Loop b (i : Int) = Loop b (n : Int) := Loop_run (fun j : Nat => (j : Int)) hin h
/-- A loop's end. -/
theorem Loop_end {σ ρ : Type} {b : σ → Option (Step σ ρ)} {s : σ} {R : Option ρ} (h : b s = R.map Step.done) : Loop b s = R := by
  cases R with
  | some r => exact Loop_done h
  | none =>
    apply Option.ext_some
    · intro r hr
      obtain ⟨n, hn⟩ := Loop_get hr
      cases n with
      | zero => simp [rounds] at hn
      | succ n => simp [rounds, h] at hn
    · intro r hr; cases hr
open Classical in
/-- A loop that looks for what is bad. -/
theorem Loop_all {ρ : Type} {b : Int → Option (Step Int ρ)} (P : Nat → Prop) {n : Nat} {r R : ρ} (hg : ∀ j, j < n → P j → b (j : Int) = some (.next ((j + 1 : Nat) : Int))) (hb : ∀ j, j < n → ¬ P j → b (j : Int) = some (.done r)) (he : b (n : Int) = some (.done R)) :
    ∀ (d i : Nat), i + d = n → Loop b (i : Int) = if ∀ j, i ≤ j → j < n → P j then some R else some r := by
  intro d
  induction d with
  | zero =>
    intro i hi
    obtain rfl : i = n := by omega
    rw [if_pos (fun j h1 h2 => by omega)]
    exact Loop_done he
  | succ d ih =>
    intro i hi
    by_cases hp : P i
    · rw [Loop_next (hg i (by omega) hp), ih (i + 1) (by omega)]
      have : (∀ j, i + 1 ≤ j → j < n → P j) ↔ ∀ j, i ≤ j → j < n → P j := by
        constructor
        · intro h j h1 h2
          by_cases e : j = i
          · rw [e]; exact hp
          · exact h j (by omega) h2
        · intro h j h1 h2; exact h j (by omega) h2
      simp only [this]
    · rw [Loop_done (hb i (by omega) hp), if_neg (fun h => hp (h i (Nat.le_refl _) (by omega)))]
theorem Loop_all0 {ρ : Type} {b : Int → Option (Step Int ρ)} (P : Nat → Prop) (n : Nat) {r R : ρ} (hg : ∀ j, j < n → P j → b (j : Int) = some (.next ((j + 1 : Nat) : Int))) (hb : ∀ j, j < n → ¬ P j → b (j : Int) = some (.done r)) (he : b (n : Int) = some (.done R)) :
    ((∀ j, j < n → P j) → Loop b 0 = some R) ∧ ((¬ ∀ j, j < n → P j) → Loop b 0 = some r) := by
  have := Loop_all P hg hb he n 0 (by omega)
  exact ⟨fun h => by rw [if_pos (fun j _ hj => h j hj)] at this; exact this, fun h => by rw [if_neg (fun h' => h fun j hj => h' j (Nat.zero_le _) hj)] at this; exact this⟩
end Go.Val

/- part P2 -/
/- Plain lemmas: graphs that may be. -/
namespace Go.Val
set_option linter.unusedVariables false
def EdgeOk (s : Nat) (xs : List TEdge) (k : Nat) : Prop := ∀ x, xs[k]? = some x → 0 ≤ x.To ∧ x.To < s ∧ (0 < k → ∀ x1, xs[k - 1]? = some x1 → x1.Label.toNat < x.Label.toNat)
def RowOk (s : Nat) (xs : List TEdge) : Prop := ∀ k, k < xs.length → EdgeOk s xs k
structure RightP (g : TGraph) : Prop where
  lo : 1 ≤ g.Final.length
  hi : g.Final.length ≤ 65536
  len : g.Edges.length = g.Final.length
  rows : ∀ s, s < g.Edges.length → ∀ xs, g.Edges[s]? = some xs → RowOk s xs
/-- No row is longer than memory. -/
def Short (g : TGraph) : Prop := ∀ xs ∈ g.Edges, xs.length ≤ 140737488355328

def chk (s : Int) (xs : List TEdge) (k : Int) (x : TEdge) : Option Bool :=
  if (decide (x.To < (0 : Int))) then some true
  else if (decide (x.To ≥ s)) then some true
  else if (decide (k > (0 : Int))) then
    (idx xs (IntKind.i64.wrap (k - (1 : Int)))).bind fun x1 => some (decide ((x.Label.toNat : Int) ≤ (x1.Label.toNat : Int)))
  else some false
theorem chk_eq {s k : Nat} {xs : List TEdge} {x : TEdge} (hk : xs[k]? = some x) (hl : xs.length ≤ 140737488355328) : ∃ v, chk s xs k x = some v ∧ (v = true ↔ ¬ EdgeOk s xs k) := by
  have hlt : k < xs.length := (List.getElem?_eq_some_iff.1 hk).1
  unfold chk
  by_cases h1 : x.To < 0
  · exact ⟨true, by simp [h1], by simp; intro h; have := (h x hk).1; omega⟩
  by_cases h2 : x.To ≥ s
  · exact ⟨true, by simp [h1, h2], by simp; intro h; have := (h x hk).2.1; omega⟩
  by_cases h3 : 0 < k
  · have hlt1 : k - 1 < xs.length := by omega
    have h4 : xs[k - 1]? = some (xs[k - 1]) := List.getElem?_eq_getElem hlt1
    have e : IntKind.i64.wrap ((k : Int) - 1) = ((k - 1 : Nat) : Int) := by rw [w64 (by omega) (by omega)]; omega
    refine ⟨decide ((x.Label.toNat : Int) ≤ (xs[k - 1].Label.toNat : Int)), ?_, ?_⟩
    · rw [if_neg (by simp; omega), if_neg (by simp; omega), if_pos (by simp; omega), e, idx_nat, h4]; rfl
    · simp only [decide_eq_true_eq]
      constructor
      · intro h hok
        have := (hok x hk).2.2 h3 _ h4
        omega
      · intro h
        by_cases hc : (x.Label.toNat : Int) ≤ (xs[k - 1].Label.toNat : Int)
        · exact hc
        · exfalso; apply h
          intro y hy
          rw [hk] at hy; cases hy
          exact ⟨by omega, by omega, fun _ x1 hx1 => by rw [h4] at hx1; cases hx1; omega⟩
  · refine ⟨false, ?_, ?_⟩
    · rw [if_neg (by simp; omega), if_neg (by simp; omega), if_neg (by simp; omega)]
    · simp only [Bool.false_eq_true, false_iff, Classical.not_not]
      intro y hy
      rw [hk] at hy; cases hy
      exact ⟨by omega, by omega, fun h => absurd h h3⟩

theorem dawg_Right_row {s : Nat} {xs : List TEdge} (hs : s ≤ 65536) (hl : xs.length ≤ 140737488355328) : (RowOk s xs → Loop (dawg_Right.b2 s xs) 0 = some (.next ((s + 1 : Nat) : Int))) ∧ (¬ RowOk s xs → Loop (dawg_Right.b2 s xs) 0 = some (.done false)) := by
  refine Loop_all0 (fun k => EdgeOk s xs k) xs.length (fun k hk hp => ?_) (fun k hk hp => ?_) ?_
  · have hx : xs[k]? = some xs[k] := List.getElem?_eq_getElem hk
    obtain ⟨v, h1, h2⟩ := chk_eq (s := s) hx hl
    have hv : v = false := by cases v with
      | true => exact absurd hp (h2.1 rfl)
      | false => rfl
    unfold dawg_Right.b2
    rw [if_pos (by simp; omega), idx_nat, hx]
    show (chk s xs k xs[k]).bind _ = _
    rw [h1, hv]
    simp [w64s (show k < 9223372036854775807 by omega)]
  · have hx : xs[k]? = some xs[k] := List.getElem?_eq_getElem hk
    obtain ⟨v, h1, h2⟩ := chk_eq (s := s) hx hl
    have hv : v = true := h2.2 hp
    unfold dawg_Right.b2
    rw [if_pos (by simp; omega), idx_nat, hx]
    show (chk s xs k xs[k]).bind _ = _
    rw [h1, hv]
    rfl
  · unfold dawg_Right.b2
    rw [if_neg (by simp)]
    simp [dawg_Right.k2, w64s (show s < 9223372036854775807 by omega)]
theorem ref_Right_row {g : TGraph} {s : Nat} {xs : List TEdge} (hg : g.Edges[s]? = some xs) (hs : s ≤ 65536) (hl : xs.length ≤ 140737488355328) : (RowOk s xs → Loop (scansionref17_Right.b2 g s) 0 = some (.next ((s + 1 : Nat) : Int))) ∧ (¬ RowOk s xs → Loop (scansionref17_Right.b2 g s) 0 = some (.done false)) := by
  refine Loop_all0 (fun k => EdgeOk s xs k) xs.length (fun k hk hp => ?_) (fun k hk hp => ?_) ?_
  · have hx : xs[k]? = some xs[k] := List.getElem?_eq_getElem hk
    obtain ⟨v, h1, h2⟩ := chk_eq (s := s) hx hl
    have hv : v = false := by cases v with
      | true => exact absurd hp (h2.1 rfl)
      | false => rfl
    unfold scansionref17_Right.b2
    rw [idx_nat, hg, Option.bind_some, if_pos (by simp; omega), idx_nat, hx]
    show (chk s xs k xs[k]).bind _ = _
    rw [h1, hv]
    simp [w64s (show k < 9223372036854775807 by omega)]
  · have hx : xs[k]? = some xs[k] := List.getElem?_eq_getElem hk
    obtain ⟨v, h1, h2⟩ := chk_eq (s := s) hx hl
    have hv : v = true := h2.2 hp
    unfold scansionref17_Right.b2
    rw [idx_nat, hg, Option.bind_some, if_pos (by simp; omega), idx_nat, hx]
    show (chk s xs k xs[k]).bind _ = _
    rw [h1, hv]
    rfl
  · unfold scansionref17_Right.b2
    rw [idx_nat, hg, Option.bind_some, if_neg (by simp)]
    simp [scansionref17_Right.k2, w64s (show s < 9223372036854775807 by omega)]

open Classical in
theorem dawg_Right_eq {g : TGraph} (hs : Short g) : dawg_Right g = some (decide (RightP g)) := by
  unfold dawg_Right
  split
  · rename_i h
    have : ¬ RightP g := fun hr => by
      have h1 := hr.lo; have h2 := hr.hi; have h3 := hr.len
      simp at h; omega
    simp [this]
  · rename_i h
    simp at h
    obtain ⟨k1, k2⟩ := Loop_all0 (b := dawg_Right.b1 g) (fun s => ∀ xs, g.Edges[s]? = some xs → RowOk s xs) g.Edges.length (r := false) (R := true) (fun s hlt hp => by
        have hx : g.Edges[s]? = some g.Edges[s] := List.getElem?_eq_getElem hlt
        unfold dawg_Right.b1
        rw [if_pos (by simp; omega), idx_nat, hx, Option.bind_some, (dawg_Right_row (by omega) (hs _ (List.getElem_mem hlt))).1 (hp _ hx)])
      (fun s hlt hp => by
        have hx : g.Edges[s]? = some g.Edges[s] := List.getElem?_eq_getElem hlt
        unfold dawg_Right.b1
        rw [if_pos (by simp; omega), idx_nat, hx, Option.bind_some, (dawg_Right_row (by omega) (hs _ (List.getElem_mem hlt))).2 (fun h => hp fun xs he => by rw [hx] at he; cases he; exact h)])
      (by unfold dawg_Right.b1; rw [if_neg (by simp)]; rfl)
    by_cases hr : RightP g
    · rw [k1 hr.rows]; simp [hr]
    · rw [k2 (fun hrows => hr ⟨by omega, by omega, by omega, hrows⟩)]; simp [hr]
open Classical in
theorem ref_Right_eq {g : TGraph} (hs : Short g) : scansionref17_Right g = some (decide (RightP g)) := by
  unfold scansionref17_Right
  split
  · rename_i h
    have : ¬ RightP g := fun hr => by
      have h1 := hr.lo; have h2 := hr.hi; have h3 := hr.len
      simp at h; omega
    simp [this]
  · rename_i h
    simp at h
    obtain ⟨k1, k2⟩ := Loop_all0 (b := scansionref17_Right.b1 g) (fun s => ∀ xs, g.Edges[s]? = some xs → RowOk s xs) g.Final.length (r := false) (R := true) (fun s hlt hp => by
        have hx : g.Edges[s]? = some (g.Edges[s]'(by omega)) := List.getElem?_eq_getElem _
        unfold scansionref17_Right.b1
        rw [if_pos (by simp; omega), (ref_Right_row hx (by omega) (hs _ (List.getElem_mem _))).1 (hp _ hx)])
      (fun s hlt hp => by
        have hx : g.Edges[s]? = some (g.Edges[s]'(by omega)) := List.getElem?_eq_getElem _
        unfold scansionref17_Right.b1
        rw [if_pos (by simp; omega), (ref_Right_row hx (by omega) (hs _ (List.getElem_mem _))).2 (fun h => hp fun xs he => by rw [hx] at he; cases he; exact h)])
      (by unfold scansionref17_Right.b1; rw [if_neg (by simp)]; rfl)
    by_cases hr : RightP g
    · rw [k1 (fun s hlt => hr.rows s (by omega))]; simp [hr]
    · rw [k2 (fun hrows => hr ⟨by omega, by omega, by omega, fun s hlt => hrows s (by omega)⟩)]; simp [hr]
end Go.Val

/- part P3 -/
/- Plain lemmas: how many words lead to an end. -/
namespace Go.Val
set_option linter.unusedVariables false
def cap : Int := 1099511627776
def crow (cs : List Int) (n : Int) (xs : List TEdge) : Int := xs.foldl (fun n x => mn (n + cs.getD x.To.toNat 0) cap) n
def cstep (cs : List Int) (p : Bool × List TEdge) : Int := crow cs (if p.1 then 1 else 0) p.2
def counts (rows : List (Bool × List TEdge)) : List Int := rows.foldl (fun cs p => cs ++ [cstep cs p]) []
def rowsOf (g : TGraph) : List (Bool × List TEdge) := g.Final.zip g.Edges

theorem counts_snoc {rows : List (Bool × List TEdge)} {p : Bool × List TEdge} : counts (rows ++ [p]) = counts rows ++ [cstep (counts rows) p] := by simp [counts]
theorem counts_len (rows : List (Bool × List TEdge)) : (counts rows).length = rows.length := by
  induction rows using snoc_ind with
  | h0 => rfl
  | h1 rows p ih => rw [counts_snoc]; simp [ih]
theorem mn_le {a b : Int} : mn a b ≤ b ∧ mn a b ≤ a := by unfold mn; split <;> omega
theorem mn_ge {a b c : Int} (h1 : c ≤ a) (h2 : c ≤ b) : c ≤ mn a b := by unfold mn; split <;> omega
theorem getD_bound {cs : List Int} (hc : ∀ c ∈ cs, 0 ≤ c ∧ c ≤ cap) (i : Nat) : 0 ≤ cs.getD i 0 ∧ cs.getD i 0 ≤ cap := by
  rw [List.getD_eq_getElem?_getD]
  cases h : cs[i]? with
  | none => simp [cap]
  | some c => simpa using hc c (List.mem_of_getElem? h)
theorem crow_bound {cs : List Int} (hc : ∀ c ∈ cs, 0 ≤ c ∧ c ≤ cap) : ∀ (xs : List TEdge) {n : Int}, 0 ≤ n → n ≤ cap → 0 ≤ crow cs n xs ∧ crow cs n xs ≤ cap
  | [], n, h1, h2 => ⟨h1, h2⟩
  | x :: xs, n, h1, h2 => by
    have hb := getD_bound hc x.To.toNat
    exact crow_bound hc xs (mn_ge (by omega) (by simp [cap])) mn_le.1
theorem counts_bound (rows : List (Bool × List TEdge)) : ∀ c ∈ counts rows, 0 ≤ c ∧ c ≤ cap := by
  induction rows using snoc_ind with
  | h0 => intro c hc; simp [counts] at hc
  | h1 rows p ih =>
    intro c hc
    rw [counts_snoc] at hc
    rcases List.mem_append.1 hc with hc | hc
    · exact ih c hc
    · simp at hc; subst hc
      exact crow_bound ih _ (by split <;> omega) (by split <;> simp [cap])
theorem rows_at {g : TGraph} {s : Nat} {f : Bool} {xs : List TEdge} (h1 : g.Final[s]? = some f) (h2 : g.Edges[s]? = some xs) : (rowsOf g)[s]? = some (f, xs) := by
  simp [rowsOf, List.zip, List.getElem?_zipWith, h1, h2]
theorem rows_len {g : TGraph} (h : g.Edges.length = g.Final.length) : (rowsOf g).length = g.Final.length := by simp [rowsOf, h]
theorem take_snoc {α : Type} {l : List α} {s : Nat} {x : α} (h : l[s]? = some x) : l.take (s + 1) = l.take s ++ [x] := by
  rw [List.take_add_one, h]; rfl
theorem counts_next {g : TGraph} {s : Nat} {f : Bool} {xs : List TEdge} (h1 : g.Final[s]? = some f) (h2 : g.Edges[s]? = some xs) : counts ((rowsOf g).take (s + 1)) = counts ((rowsOf g).take s) ++ [crow (counts ((rowsOf g).take s)) (if f then 1 else 0) xs] := by
  rw [take_snoc (rows_at h1 h2), counts_snoc]; rfl
theorem crow_snoc {cs : List Int} {n : Int} {xs : List TEdge} {x : TEdge} : crow cs n (xs ++ [x]) = mn (crow cs n xs + cs.getD x.To.toNat 0) cap := by simp [crow]

/-- The program's Count: the list is there from the first, and filled. -/
def filled (cs : List Int) (n : Nat) : List Int := cs ++ List.replicate (n - cs.length) 0
theorem filled_set {cs : List Int} {n : Nat} {v : Int} (h : cs.length < n) (m : Int) : (cs ++ m :: List.replicate (n - cs.length - 1) 0).set cs.length v = cs ++ v :: List.replicate (n - cs.length - 1) 0 := by
  rw [List.set_append_right _ _ (Nat.le_refl _)]; simp
theorem filled_eq {cs : List Int} {n : Nat} (h : cs.length < n) : filled cs n = cs ++ 0 :: List.replicate (n - cs.length - 1) 0 := by
  unfold filled
  obtain ⟨m, hm⟩ : ∃ m, n - cs.length = m + 1 := ⟨n - cs.length - 1, by omega⟩
  rw [hm]; simp [List.replicate_succ]
theorem filled_snoc {cs : List Int} {n : Nat} {v : Int} (h : cs.length < n) : cs ++ v :: List.replicate (n - cs.length - 1) 0 = filled (cs ++ [v]) n := by
  unfold filled
  simp only [List.length_append, List.length_cons, List.length_nil, List.append_assoc, List.cons_append, List.nil_append]
  congr 3
theorem dawg_Count_row {g : TGraph} {s N : Nat} {xs : List TEdge} {f : Bool} (hg : g.Edges[s]? = some xs) (hf : g.Final[s]? = some f) (hs : s < N) (hN : N ≤ 65536) (hl : xs.length ≤ 140737488355328) (hr : RowOk s xs) (hlen : s ≤ (rowsOf g).length) {n : Int} (hn : n = if f then 1 else 0) {cs : List Int} (hcs : counts ((rowsOf g).take s) = cs) :
    Loop (dawg_Count.b2 s xs) (cs ++ n :: List.replicate (N - cs.length - 1) 0, 0) = some (.next (filled (counts ((rowsOf g).take (s + 1))) N, ((s + 1 : Nat) : Int))) := by
  have hcl : cs.length = s := by rw [← hcs, counts_len]; simp; omega
  have hcb : ∀ c ∈ cs, 0 ≤ c ∧ c ≤ cap := by rw [← hcs]; exact counts_bound _
  have := Loop_run (b := dawg_Count.b2 s xs) (fun k => (cs ++ crow cs n (xs.take k) :: List.replicate (N - cs.length - 1) 0, (k : Int))) (i := 0) (n := xs.length) (Nat.zero_le _) (fun k _ hk => by
    have hx : xs[k]? = some xs[k] := List.getElem?_eq_getElem hk
    have hok := hr k hk _ hx
    have hb := crow_bound hcb (xs.take k) (n := n) (by rw [hn]; split <;> omega) (by rw [hn]; split <;> simp [cap])
    have hc : cs[xs[k].To.toNat]? = some (cs[xs[k].To.toNat]'(by omega)) := List.getElem?_eq_getElem _
    have hgd : cs.getD xs[k].To.toNat 0 = cs[xs[k].To.toNat]'(by omega) := by rw [List.getD_eq_getElem?_getD, hc]; rfl
    have hb2 := getD_bound hcb xs[k].To.toNat
    have r1 : (cs ++ crow cs n (xs.take k) :: List.replicate (N - cs.length - 1) 0)[s]? = some (crow cs n (xs.take k)) := by
      rw [List.getElem?_append_right (by omega), hcl, Nat.sub_self]; rfl
    have r2 : (cs ++ crow cs n (xs.take k) :: List.replicate (N - cs.length - 1) 0)[xs[k].To.toNat]? = some (cs[xs[k].To.toNat]'(by omega)) := by
      rw [List.getElem?_append_left (by omega)]; exact hc
    rw [dawg_Count.b2, if_pos (by simp; omega), idx_nat, hx, Option.bind_some, idx_nat, r1, Option.bind_some, idx_some hok.1 r2, Option.bind_some, w64s (by omega), take_snoc hx, crow_snoc, hgd]
    rw [hgd] at hb2
    simp only [cap] at hb hb2
    rw [w64 (by omega) (by omega), Int.toNat_natCast]
    have e : ∀ v, (cs ++ crow cs n (List.take k xs) :: List.replicate (N - cs.length - 1) 0).set s v = cs ++ v :: List.replicate (N - cs.length - 1) 0 := fun v => by
      have := filled_set (cs := cs) (n := N) (v := v) (by omega) (crow cs n (List.take k xs))
      rwa [hcl] at this ⊢
    rw [e]
    rfl)
  simp only [List.take_zero, List.take_length] at this
  have e0 : crow cs n [] = n := rfl
  rw [e0, show ((0 : Nat) : Int) = 0 from rfl] at this
  rw [this]
  apply Loop_end
  rw [dawg_Count.b2, if_neg (by simp)]
  unfold dawg_Count.k2
  rw [w64s (by omega), counts_next hf hg, hcs, ← hn, filled_snoc (by omega)]
theorem dawg_Count_eq {g : TGraph} (hs : Short g) (hr : RightP g) : dawg_Count g = some (counts (rowsOf g), 0) := by
  unfold dawg_Count
  have hl := rows_len hr.len
  have hi := hr.hi
  rw [dawg_Right_eq hs, Option.bind_some, if_neg (by simp [hr]), mk_ok (by omega), Option.bind_some]
  have := Loop_run (b := dawg_Count.b1 g) (fun s => (filled (counts ((rowsOf g).take s)) g.Final.length, (s : Int))) (i := 0) (n := g.Final.length) (Nat.zero_le _) (fun s _ hlt => by
    have h1 : g.Final[s]? = some g.Final[s] := List.getElem?_eq_getElem hlt
    have h2 : g.Edges[s]? = some (g.Edges[s]'(by have := hr.len; omega)) := List.getElem?_eq_getElem _
    have hrow := hr.rows s (by have := hr.len; omega) _ h2
    have hcl : (counts ((rowsOf g).take s)).length = s := by rw [counts_len]; simp; omega
    have hfe := filled_eq (cs := counts ((rowsOf g).take s)) (n := g.Final.length) (by omega)
    rw [dawg_Count.b1, if_pos (by have := hr.len; simp; omega), idx_nat, h2, Option.bind_some, idx_nat, h1, Option.bind_some]
    split
    · rename_i hf
      have h3 : (filled (counts ((rowsOf g).take s)) g.Final.length)[s]? = some 0 := by
        rw [hfe, List.getElem?_append_right (by omega), hcl, Nat.sub_self]; rfl
      rw [idx_nat, h3, Option.bind_some, Int.toNat_natCast, hfe]
      have e := filled_set (cs := counts ((rowsOf g).take s)) (n := g.Final.length) (v := 1) (by omega) 0
      rw [hcl] at e
      unfold dawg_Count.k3
      rw [hcl, e]
      have := dawg_Count_row (N := g.Final.length) h2 h1 hlt hi (hs _ (List.getElem_mem _)) hrow (by omega) (n := 1) (by simp [hf]) rfl
      rwa [hcl] at this
    · rename_i hf
      unfold dawg_Count.k3
      rw [hfe]
      exact dawg_Count_row (N := g.Final.length) h2 h1 hlt hi (hs _ (List.getElem_mem _)) hrow (by omega) (n := 0) (by simp [hf]) rfl)
  have e0 : filled (counts ((rowsOf g).take 0)) g.Final.length = List.replicate (Int.toNat (g.Final.length : Int)) 0 := by simp [filled, counts]
  simp only [e0] at this
  rw [show ((0 : Nat) : Int) = 0 from rfl] at this
  rw [this]
  apply Loop_end
  rw [dawg_Count.b1, if_neg (by have := hr.len; simp; omega)]
  unfold dawg_Count.k1
  rw [List.take_of_length_le (by omega)]
  simp [filled, counts_len, hl]
theorem dawg_Count_bad {g : TGraph} (hs : Short g) (hr : ¬ RightP g) : dawg_Count g = some ([], 1) := by
  unfold dawg_Count
  rw [dawg_Right_eq hs, Option.bind_some, if_pos (by simp [hr])]
end Go.Val

/- part P4 -/
/- Plain lemmas: a state has as many ends as those that it leads to (DawgSum). -/
namespace Go.Val
set_option linter.unusedVariables false
theorem Few_eq (g : TGraph) (m : Nat) (hm : m ≤ 1000) : ∃ b, scansionref17_Few g m = some b ∧ (b = true → g.Final.length ≤ m ∧ g.Edges.length ≤ m ∧ ∀ xs ∈ g.Edges, xs.length ≤ 300) := by
  unfold scansionref17_Few
  split
  · exact ⟨false, rfl, fun h => by cases h⟩
  · rename_i h
    simp at h
    obtain ⟨k1, k2⟩ := Loop_all0 (b := scansionref17_Few.b1 g) (fun s => ∀ xs, g.Edges[s]? = some xs → xs.length ≤ 300) g.Edges.length (r := false) (R := true) (fun s hlt hp => by
        have hx : g.Edges[s]? = some g.Edges[s] := List.getElem?_eq_getElem hlt
        have := hp _ hx
        unfold scansionref17_Few.b1
        rw [if_pos (by simp; omega), idx_nat, hx, Option.bind_some, if_neg (by simp; omega), w64s (by omega)])
      (fun s hlt hp => by
        have hx : g.Edges[s]? = some g.Edges[s] := List.getElem?_eq_getElem hlt
        have : ¬ g.Edges[s].length ≤ 300 := fun h => hp fun xs he => by rw [hx] at he; cases he; exact h
        unfold scansionref17_Few.b1
        rw [if_pos (by simp; omega), idx_nat, hx, Option.bind_some, if_pos (by simp; omega)])
      (by unfold scansionref17_Few.b1; rw [if_neg (by simp)]; rfl)
    by_cases hall : ∀ s, s < g.Edges.length → ∀ xs, g.Edges[s]? = some xs → xs.length ≤ 300
    · exact ⟨true, k1 hall, fun _ => ⟨by omega, by omega, fun xs hx => by
        obtain ⟨i, hi⟩ := List.getElem?_of_mem hx
        exact hall i (List.getElem?_eq_some_iff.1 hi).1 xs hi⟩⟩
    · exact ⟨false, k2 hall, fun h => by cases h⟩
end Go.Val

/- part P5 -/
/- Plain lemmas: looking for one in a list; keys; the two words of 'awake'. -/
namespace Go.Val
set_option linter.unusedVariables false
def find {α : Type} (g : α → Bool) (l : List α) : Int := if l.findIdx g < l.length then (l.findIdx g : Int) else -1
theorem IndexFunc_str {s : List Str} {f : Str → Option Bool} {g : Str → Bool} (hf : ∀ x ∈ s, f x = some (g x)) (hl : s.length ≤ 140737488355328) : slices_IndexFunc_string_string s f = some (find g s) := by
  unfold slices_IndexFunc_string_string
  have hle : s.findIdx g ≤ s.length := List.findIdx_le_length
  have := Loop_int (b := slices_IndexFunc_string_string.b1 s f) (i := 0) (n := s.findIdx g) (Nat.zero_le _) (fun j _ hj => by
    have hlt : j < s.length := by omega
    have hx : s[j]? = some s[j] := List.getElem?_eq_getElem hlt
    have hg : g s[j] = false := by simpa using List.not_of_lt_findIdx hj
    rw [slices_IndexFunc_string_string.b1, if_pos (by simp; omega), idx_nat, hx, Option.bind_some, hf _ (List.getElem_mem _), Option.bind_some, if_neg (by simp [hg]), w64s (by omega)])
  rw [show ((0 : Nat) : Int) = 0 from rfl] at this
  rw [this]
  unfold find
  by_cases h : s.findIdx g < s.length
  · rw [if_pos h]
    apply Loop_done
    have hx : s[s.findIdx g]? = some s[s.findIdx g] := List.getElem?_eq_getElem h
    have hg : g s[s.findIdx g] = true := List.findIdx_getElem
    rw [slices_IndexFunc_string_string.b1, if_pos (by rw [decide_eq_true_eq]; omega), idx_nat, hx, Option.bind_some, hf _ (List.getElem_mem _), Option.bind_some, if_pos hg]
  · rw [if_neg h]
    apply Loop_done
    rw [slices_IndexFunc_string_string.b1, if_neg (by rw [decide_eq_true_eq]; omega)]
    rfl
theorem IndexFunc_edge {s : List TEdge} {f : TEdge → Option Bool} {g : TEdge → Bool} (hf : ∀ x ∈ s, f x = some (g x)) (hl : s.length ≤ 140737488355328) : slices_IndexFunc_api_Edge_api_Edge s f = some (find g s) := by
  unfold slices_IndexFunc_api_Edge_api_Edge
  have hle : s.findIdx g ≤ s.length := List.findIdx_le_length
  have := Loop_int (b := slices_IndexFunc_api_Edge_api_Edge.b1 s f) (i := 0) (n := s.findIdx g) (Nat.zero_le _) (fun j _ hj => by
    have hlt : j < s.length := by omega
    have hx : s[j]? = some s[j] := List.getElem?_eq_getElem hlt
    have hg : g s[j] = false := by simpa using List.not_of_lt_findIdx hj
    rw [slices_IndexFunc_api_Edge_api_Edge.b1, if_pos (by simp; omega), idx_nat, hx, Option.bind_some, hf _ (List.getElem_mem _), Option.bind_some, if_neg (by simp [hg]), w64s (by omega)])
  rw [show ((0 : Nat) : Int) = 0 from rfl] at this
  rw [this]
  unfold find
  by_cases h : s.findIdx g < s.length
  · rw [if_pos h]
    apply Loop_done
    have hx : s[s.findIdx g]? = some s[s.findIdx g] := List.getElem?_eq_getElem h
    have hg : g s[s.findIdx g] = true := List.findIdx_getElem
    rw [slices_IndexFunc_api_Edge_api_Edge.b1, if_pos (by rw [decide_eq_true_eq]; omega), idx_nat, hx, Option.bind_some, hf _ (List.getElem_mem _), Option.bind_some, if_pos hg]
  · rw [if_neg h]
    apply Loop_done
    rw [slices_IndexFunc_api_Edge_api_Edge.b1, if_neg (by rw [decide_eq_true_eq]; omega)]
    rfl
/-- A key's bytes of an edge. -/
def kb (x : TEdge) : List UInt8 := [x.Label, u8 (IntKind.u8.wrap (shR .i64 x.To 24)), u8 (IntKind.u8.wrap (shR .i64 x.To 16)), u8 (IntKind.u8.wrap (shR .i64 x.To 8)), u8 (IntKind.u8.wrap x.To)]
def keyOf (f : Bool) (es : List TEdge) : List UInt8 := (if f then 1 else 0) :: es.flatMap kb
theorem key_loop {es : List TEdge} {out : List UInt8} (ho : out.length = 1) (hl : es.length ≤ 1000000) : dawg_key.k1 es out = some (out ++ es.flatMap kb) := by
  unfold dawg_key.k1
  have hlen : ∀ k, k ≤ es.length → (out ++ (es.take k).flatMap kb).length = 1 + 5 * k := fun k hk => by
    rw [List.length_append, ho]
    have : ∀ l : List TEdge, (l.flatMap kb).length = 5 * l.length := by
      intro l
      induction l with
      | nil => rfl
      | cons x l ih => simp [kb] at ih ⊢; omega
    rw [this, List.length_take, Nat.min_eq_left hk]
  have := Loop_run (b := dawg_key.b1 es) (fun k => (out ++ (es.take k).flatMap kb, (k : Int))) (i := 0) (n := es.length) (Nat.zero_le _) (fun k _ hk => by
    have hx : es[k]? = some es[k] := List.getElem?_eq_getElem hk
    rw [dawg_key.b1, if_pos (by simp; omega), idx_nat, hx, Option.bind_some, room_ok (by rw [hlen k (by omega)]; omega), Option.bind_some, w64s (by omega), take_snoc hx]
    simp only [List.flatMap_append, List.flatMap_cons, List.flatMap_nil, List.append_nil, kb, List.append_assoc])
  simp only [List.take_zero, List.take_length, List.flatMap_nil, List.append_nil] at this
  rw [show ((0 : Nat) : Int) = 0 from rfl] at this
  rw [this]
  apply Loop_end
  rw [dawg_key.b1, if_neg (by simp)]
  rfl
theorem key_eq {f : Bool} {es : List TEdge} (hl : es.length ≤ 1000000) : dawg_key f es = some (keyOf f es) := by
  unfold dawg_key
  cases f with
  | true =>
    rw [if_pos rfl]
    simp only [List.getElem?_cons_zero, Option.bind_some]
    rw [key_loop (by simp) hl]
    rfl
  | false =>
    rw [if_neg (by simp), key_loop rfl hl]
    rfl

/-! ### two words -/
def wA : Str := [97, 98]
def wB : Str := [99, 98]
theorem label_f {s : Str} {i : Nat} {c d : UInt8} (h : s[i]? = some d) : dawg_builder_state_1 s (i : Int) c = some ((d.toNat : Int) != (c.toNat : Int)) := by
  unfold dawg_builder_state_1; rw [idx_nat, h]; rfl
theorem st_end (k : Nat) (b : Tdawg_builder) (s : Str) (hs : s.length = 2) {i : Int} {b' : Tdawg_builder} (h : dawg_builder_state.k2 true [] b.Graph.Final b.Graph.Edges b.known = some (i, b')) : dawg_builder_state.r (k + 1) b [s] 2 = some (i, b') := by
  rw [dawg_builder_state.r]
  simp only [List.length_cons, List.length_nil, List.getElem?_cons_zero, Option.bind_some, hs]
  simp only [dawg_builder_state.k1, cutL]
  simp
  apply Loop_end
  rw [dawg_builder_state.b1, if_neg (by simp), h]
theorem st_one (k : Nat) (b b1 b2 : Tdawg_builder) (c : UInt8) {i j : Int} (h1 : dawg_builder_state.r (k + 1) b [[c, 98]] 2 = some (i, b1)) (h2 : dawg_builder_state.k2 false [⟨98, i⟩] b1.Graph.Final b1.Graph.Edges b1.known = some (j, b2)) :
    dawg_builder_state.r (k + 2) b [[c, 98]] 1 = some (j, b2) := by
  rw [dawg_builder_state.r]
  have e1 : ((([[c, 98]] : List Str).length : Int) > 0) := by simp
  rw [if_pos (by simp)]
  simp only [List.getElem?_cons_zero, Option.bind_some]
  rw [if_neg (by simp)]
  unfold dawg_builder_state.k1
  have hf : slices_IndexFunc_string_string [[c, 98]] (fun x0 => dawg_builder_state_1 x0 1 98) = some (-1) := by
    rw [IndexFunc_str (g := fun _ => false) (fun x hx => by
      simp at hx; subst hx
      exact label_f (i := 1) (d := 98) rfl) (by simp)]
    rfl
  have step : dawg_builder_state.b1 (dawg_builder_state.r (k + 1)) 1 false ([[c, 98]], [], b.Graph.Final, b.Graph.Edges, b.known) = some (.next ([], [⟨98, i⟩], b1.Graph.Final, b1.Graph.Edges, b1.known)) := by
    rw [dawg_builder_state.b1, if_pos (by simp)]
    simp only [List.getElem?_cons_zero, Option.bind_some]
    rw [show (1 : Int) = ((1 : Nat) : Int) from rfl, idx_nat]
    simp only [List.getElem?_cons_succ, List.getElem?_cons_zero, Option.bind_some]
    rw [show ((1 : Nat) : Int) = 1 from rfl, hf, Option.bind_some, if_pos (by simp)]
    unfold dawg_builder_state.k4
    have ew : IntKind.i64.wrap (1 + 1) = 2 := by rw [w64] <;> omega
    simp only [List.length_cons, List.length_nil, cutH, cutL, ew]
    simp [h1, room_ok]
  change Loop (dawg_builder_state.b1 (dawg_builder_state.r (k + 1)) 1 false) _ = _
  rw [Loop_next step]
  apply Loop_end
  rw [dawg_builder_state.b1, if_neg (by simp), h2]
def bF : Tdawg_builder := ⟨⟨[true], [[]]⟩, [([1], 0)]⟩
def bG : Tdawg_builder := ⟨⟨[true, false], [[], [⟨98, 0⟩]]⟩, [([1], 0), ([0, 98, 0, 0, 0, 0], 1)]⟩
def bH : Tdawg_builder := ⟨⟨[true, false, false], [[], [⟨98, 0⟩], [⟨97, 1⟩, ⟨99, 1⟩]]⟩, [([1], 0), ([0, 98, 0, 0, 0, 0], 1), ([0, 97, 0, 0, 0, 1, 99, 0, 0, 0, 1], 2)]⟩
theorem kk1 : keyOf true [] = [1] := rfl
theorem kk2 : keyOf false [⟨98, 0⟩] = [0, 98, 0, 0, 0, 0] := by decide
theorem kk3 : keyOf false [⟨97, 1⟩, ⟨99, 1⟩] = [0, 97, 0, 0, 0, 1, 99, 0, 0, 0, 1] := by decide
theorem s1 : dawg_builder_state.k2 true [] [] [] [] = some (0, bF) := by
  unfold dawg_builder_state.k2
  rw [key_eq (by simp), Option.bind_some, kk1]
  simp [aget, room_ok, dawg_builder_state.k3, aput, bF]
theorem s2 : dawg_builder_state.k2 true [] bG.Graph.Final bG.Graph.Edges bG.known = some (0, bG) := by
  unfold dawg_builder_state.k2
  rw [key_eq (by simp), Option.bind_some, kk1]
  simp [aget, room_ok, dawg_builder_state.k3, aput, bG]
theorem s3 : dawg_builder_state.k2 false [⟨98, 0⟩] bF.Graph.Final bF.Graph.Edges bF.known = some (1, bG) := by
  unfold dawg_builder_state.k2
  rw [key_eq (by simp), Option.bind_some, kk2]
  simp [aget, room_ok, dawg_builder_state.k3, aput, bG, bF]
theorem s4 : dawg_builder_state.k2 false [⟨98, 0⟩] bG.Graph.Final bG.Graph.Edges bG.known = some (1, bG) := by
  unfold dawg_builder_state.k2
  rw [key_eq (by simp), Option.bind_some, kk2]
  simp [aget, room_ok, dawg_builder_state.k3, aput, bG, bF]
theorem s5 : dawg_builder_state.k2 false [⟨97, 1⟩, ⟨99, 1⟩] bG.Graph.Final bG.Graph.Edges bG.known = some (2, bH) := by
  unfold dawg_builder_state.k2
  rw [key_eq (by simp), Option.bind_some, kk3]
  simp [aget, room_ok, dawg_builder_state.k3, aput, bG, bH]
theorem stA (k : Nat) : dawg_builder_state.r (k + 2) ⟨⟨[], []⟩, []⟩ [wA] 1 = some (1, bG) := st_one k _ bF bG 97 (st_end k _ _ rfl s1) s3
theorem stB (k : Nat) : dawg_builder_state.r (k + 2) bG [wB] 1 = some (1, bG) := st_one k _ bG bG 99 (st_end k _ _ rfl s2) s4
theorem stAB (k : Nat) : dawg_builder_state.r (k + 3) ⟨⟨[], []⟩, []⟩ [wA, wB] 0 = some (2, bH) := by
  rw [dawg_builder_state.r]
  rw [if_pos (by simp)]
  simp only [List.getElem?_cons_zero, Option.bind_some]
  rw [if_neg (by simp [wA])]
  unfold dawg_builder_state.k1
  have hfA : slices_IndexFunc_string_string [wA, wB] (fun x0 => dawg_builder_state_1 x0 0 97) = some 1 := by
    rw [IndexFunc_str (g := fun s => s == wB) (fun x hx => by
      simp at hx
      rcases hx with rfl | rfl
      · exact label_f (i := 0) (d := 97) rfl
      · exact label_f (i := 0) (d := 99) rfl) (by simp)]
    rfl
  have hfB : slices_IndexFunc_string_string [wB] (fun x0 => dawg_builder_state_1 x0 0 99) = some (-1) := by
    rw [IndexFunc_str (g := fun s => false) (fun x hx => by
      simp at hx; subst hx
      exact label_f (i := 0) (d := 99) rfl) (by simp)]
    rfl
  have ew : IntKind.i64.wrap (0 + 1) = 1 := by rw [w64] <;> omega
  have step1 : dawg_builder_state.b1 (dawg_builder_state.r (k + 2)) 0 false ([wA, wB], [], [], [], []) = some (.next ([wB], [⟨97, 1⟩], bG.Graph.Final, bG.Graph.Edges, bG.known)) := by
    rw [dawg_builder_state.b1, if_pos (by simp)]
    simp only [List.getElem?_cons_zero, Option.bind_some]
    rw [show (0 : Int) = ((0 : Nat) : Int) from rfl, idx_nat, show wA[0]? = some 97 from rfl, Option.bind_some]
    rw [show ((0 : Nat) : Int) = 0 from rfl, hfA, Option.bind_some, if_neg (by simp)]
    unfold dawg_builder_state.k4
    simp only [List.length_cons, List.length_nil, cutH, cutL, ew]
    simp [stA, room_ok]
  have step2 : dawg_builder_state.b1 (dawg_builder_state.r (k + 2)) 0 false ([wB], [⟨97, 1⟩], bG.Graph.Final, bG.Graph.Edges, bG.known) = some (.next ([], [⟨97, 1⟩, ⟨99, 1⟩], bG.Graph.Final, bG.Graph.Edges, bG.known)) := by
    rw [dawg_builder_state.b1, if_pos (by simp)]
    simp only [List.getElem?_cons_zero, Option.bind_some]
    rw [show (0 : Int) = ((0 : Nat) : Int) from rfl, idx_nat, show wB[0]? = some 99 from rfl, Option.bind_some]
    rw [show ((0 : Nat) : Int) = 0 from rfl, hfB, Option.bind_some, if_pos (by simp)]
    unfold dawg_builder_state.k4
    have e : dawg_builder_state.r (k + 2) ⟨⟨bG.Graph.Final, bG.Graph.Edges⟩, bG.known⟩ [wB] 1 = some (1, bG) := stB k
    simp only [List.length_cons, List.length_nil, cutH, cutL, ew]
    simp [e, room_ok]
  change Loop (dawg_builder_state.b1 (dawg_builder_state.r (k + 2)) 0 false) _ = _
  rw [Loop_next step1, Loop_next step2]
  apply Loop_end
  rw [dawg_builder_state.b1, if_neg (by simp), s5]
theorem rise2 : dawg_rise [wA, wB] = some true := by
  unfold dawg_rise
  have step : dawg_rise.b1 [wA, wB] 1 = some (.next 2) := by
    unfold dawg_rise.b1
    have ew : IntKind.i64.wrap (1 - 1) = ((0 : Nat) : Int) := by rw [w64] <;> simp
    have ew2 : IntKind.i64.wrap (1 + 1) = 2 := by rw [w64] <;> omega
    rw [if_pos (by simp), ew, idx_nat, show (1 : Int) = ((1 : Nat) : Int) from rfl, idx_nat]
    simp only [List.getElem?_cons_succ, List.getElem?_cons_zero, Option.bind_some]
    rw [if_neg (by decide)]
    rw [show ((1 : Nat) : Int) = 1 from rfl, ew2]
  rw [Loop_next step]
  apply Loop_end
  unfold dawg_rise.b1
  rw [if_neg (by simp)]
  unfold dawg_rise.k1
  have hc : slices_ContainsFunc_string_string [wA, wB] dawg_rise_1 = some false := by
    unfold slices_ContainsFunc_string_string
    rw [IndexFunc_str (g := fun _ => false) (fun x hx => by
      simp at hx
      rcases hx with rfl | rfl <;> rfl) (by simp)]
    rfl
  simp [hc]
theorem Build2 : dawg_Build [wA, wB] = some (bH.Graph, 0) := by
  unfold dawg_Build
  have hs : dawg_builder_state ⟨⟨[], []⟩, []⟩ [wA, wB] 0 = some (2, bH) := lim_eq 3 fun k hk => by
    obtain ⟨j, rfl⟩ : ∃ j, k = j + 3 := ⟨k - 3, by omega⟩
    exact stAB j
  rw [rise2, Option.bind_some, if_neg (by simp), hs]
  rfl
theorem lab_f {x : TEdge} {s : Str} {i : Nat} {d : UInt8} (h : s[i]? = some d) : dawg_walk_1 x s (i : Int) = some ((x.Label.toNat : Int) == (d.toNat : Int)) := by
  unfold dawg_walk_1; rw [idx_nat, h]; rfl
theorem right2 : RightP bH.Graph where
  lo := by simp [bH]
  hi := by simp [bH]
  len := rfl
  rows := fun s hs xs hx k hk x hx2 => by
    have h3 : s < 3 := hs
    match s, h3 with
    | 0, _ => cases hx; simp at hk
    | 1, _ =>
      cases hx
      match k, hk with
      | 0, _ => cases hx2; exact ⟨by simp, by simp, fun h => by omega⟩
    | 2, _ =>
      cases hx
      match k, hk with
      | 0, _ => cases hx2; exact ⟨by simp, by simp, fun h => by omega⟩
      | 1, _ => cases hx2; exact ⟨by simp, by simp, fun _ x1 h1 => by cases h1; decide⟩
end Go.Val

/- part P6 -/
/- Plain lemmas: walks through a graph; Has. -/
namespace Go.Val
set_option linter.unusedVariables false
theorem lab_eq {a b : UInt8} : (((a.toNat : Int)) == (b.toNat : Int)) = (a == b) := by
  by_cases h : a = b
  · subst h; simp
  · have : a.toNat ≠ b.toNat := fun e => h (UInt8.toNat_inj.1 e)
    have h2 : ((a.toNat : Int)) ≠ (b.toNat : Int) := by omega
    rw [beq_eq_false_iff_ne.2 h, beq_eq_false_iff_ne.2 h2]
def isLab (c : UInt8) (x : TEdge) : Bool := x.Label == c
def nextS (g : TGraph) (s : Int) (c : UInt8) : Option Int := (g.Edges[s.toNat]?).bind fun xs => (xs[xs.findIdx (isLab c)]?).map TEdge.To
def runS (g : TGraph) : Int → Str → Option Int
  | s, [] => some s
  | s, c :: w => (nextS g s c).bind fun t => runS g t w
theorem runS_snoc {g : TGraph} {c : UInt8} : ∀ {w : Str} {s : Int}, runS g s (w ++ [c]) = (runS g s w).bind fun t => nextS g t c
  | [], s => by simp [runS]
  | d :: w, s => by
    simp only [List.cons_append, runS]
    cases nextS g s d with
    | none => rfl
    | some t => exact runS_snoc
/-- Where an edge leads lies below. -/
theorem next_ok {g : TGraph} (hr : RightP g) {s t : Int} {c : UInt8} (h0 : 0 ≤ s) (h1 : s < g.Final.length) (h : nextS g s c = some t) : 0 ≤ t ∧ t < s := by
  unfold nextS at h
  obtain ⟨xs, hx, h⟩ := Option.bind_eq_some_iff.1 h
  obtain ⟨x, hk, rfl⟩ := Option.map_eq_some_iff.1 h
  have hlt := (List.getElem?_eq_some_iff.1 hx).1
  have := hr.rows s.toNat hlt xs hx _ (List.getElem?_eq_some_iff.1 hk).1 x hk
  omega
theorem runS_ok {g : TGraph} (hr : RightP g) : ∀ {w : Str} {s t : Int}, 0 ≤ s → s < g.Final.length → runS g s w = some t → 0 ≤ t ∧ t < g.Final.length
  | [], s, t, h0, h1, h => by simp [runS] at h; omega
  | c :: w, s, t, h0, h1, h => by
    simp only [runS] at h
    obtain ⟨u, hu, h⟩ := Option.bind_eq_some_iff.1 h
    have := next_ok hr h0 h1 hu
    exact runS_ok hr (s := u) this.1 (by omega) h
theorem row_at {g : TGraph} (hr : RightP g) {s : Int} (h0 : 0 ≤ s) (h1 : s < g.Final.length) : ∃ xs, idx g.Edges s = some xs ∧ g.Edges[s.toNat]? = some xs ∧ xs ∈ g.Edges := by
  have hlt : s.toNat < g.Edges.length := by have := hr.len; omega
  have hx : g.Edges[s.toNat]? = some g.Edges[s.toNat] := List.getElem?_eq_getElem hlt
  exact ⟨_, idx_some h0 hx, hx, List.getElem_mem hlt⟩
theorem ref_to_eq {g : TGraph} (hs : Short g) (hr : RightP g) {s : Int} (h0 : 0 ≤ s) (h1 : s < g.Final.length) (c : UInt8) : scansionref17_to g s c = some ((nextS g s c).getD (-1)) := by
  obtain ⟨xs, hi, hx, hm⟩ := row_at hr h0 h1
  have hl := hs xs hm
  unfold scansionref17_to nextS
  rw [hx, Option.bind_some]
  have hle : xs.findIdx (isLab c) ≤ xs.length := List.findIdx_le_length
  have := Loop_int (b := scansionref17_to.b1 g s c) (i := 0) (n := xs.findIdx (isLab c)) (Nat.zero_le _) (fun j _ hj => by
    have hlt : j < xs.length := by omega
    have hj1 : xs[j]? = some xs[j] := List.getElem?_eq_getElem hlt
    have hg : isLab c xs[j] = false := by simpa using List.not_of_lt_findIdx hj
    unfold scansionref17_to.b1
    rw [hi, Option.bind_some, if_pos (by rw [decide_eq_true_eq]; omega), idx_nat, hj1, Option.bind_some, lab_eq, if_neg (by unfold isLab at hg; simp [hg]), w64s (by omega)])
  rw [show ((0 : Nat) : Int) = 0 from rfl] at this
  rw [this]
  by_cases h : xs.findIdx (isLab c) < xs.length
  · have hx1 : xs[xs.findIdx (isLab c)]? = some xs[xs.findIdx (isLab c)] := List.getElem?_eq_getElem h
    have hg : isLab c xs[xs.findIdx (isLab c)] = true := List.findIdx_getElem
    rw [hx1]
    apply Loop_done
    unfold scansionref17_to.b1
    rw [hi, Option.bind_some, if_pos (by rw [decide_eq_true_eq]; omega), idx_nat, hx1, Option.bind_some, lab_eq, if_pos (by unfold isLab at hg; exact hg)]
    rfl
  · rw [List.getElem?_eq_none (by omega)]
    apply Loop_done
    unfold scansionref17_to.b1
    rw [hi, Option.bind_some, if_neg (by rw [decide_eq_true_eq]; omega)]
    rfl
/-- Has: does a word end where it leads? -/
def hasS (g : TGraph) (w : Str) : Bool := ((runS g ((g.Final.length : Int) - 1) w).bind fun s => g.Final[s.toNat]?).getD false
theorem start_w {g : TGraph} (hr : RightP g) : IntKind.i64.wrap ((g.Final.length : Int) - 1) = (g.Final.length : Int) - 1 := by
  have := hr.lo; have := hr.hi; rw [w64 (by omega) (by omega)]
theorem final_at {g : TGraph} {s : Int} (h0 : 0 ≤ s) (h1 : s < g.Final.length) : ∃ b, idx g.Final s = some b ∧ g.Final[s.toNat]? = some b := by
  have hx : g.Final[s.toNat]? = some (g.Final[s.toNat]'(by omega)) := List.getElem?_eq_getElem _
  exact ⟨_, idx_some h0 hx, hx⟩
theorem run_take_next {g : TGraph} {s : Int} {w : Str} {k : Nat} {c : UInt8} (hc : w[k]? = some c) : runS g s (w.take (k + 1)) = (runS g s (w.take k)).bind fun t => nextS g t c := by
  rw [take_snoc hc, runS_snoc]
theorem run_take_none {g : TGraph} {s : Int} {w : Str} {k : Nat} (h : runS g s (w.take k) = none) : ∀ j, k ≤ j → runS g s (w.take j) = none := by
  intro j hj
  induction j with
  | zero => obtain rfl : k = 0 := by omega
            exact h
  | succ j ih =>
    by_cases e : k = j + 1
    · rw [← e]; exact h
    · have := ih (by omega)
      cases hc : w[j]? with
      | none => rw [List.take_of_length_le (by have := List.getElem?_eq_none_iff.1 hc; omega)]; rw [List.take_of_length_le (List.getElem?_eq_none_iff.1 hc)] at this; exact this
      | some c => rw [run_take_next hc, this]; rfl
/-- Either all of a word leads on, or there is a first place from which it doesn't. -/
theorem run_split (g : TGraph) (s : Int) (w : Str) : (∀ k, k ≤ w.length → ∃ t, runS g s (w.take k) = some t) ∨ ∃ k t c, k < w.length ∧ w[k]? = some c ∧ (∀ j, j ≤ k → ∃ t, runS g s (w.take j) = some t) ∧ runS g s (w.take k) = some t ∧ nextS g t c = none := by
  have key : ∀ n, n ≤ w.length → (∀ k, k ≤ n → ∃ t, runS g s (w.take k) = some t) ∨ ∃ k t c, k < n ∧ w[k]? = some c ∧ (∀ j, j ≤ k → ∃ t, runS g s (w.take j) = some t) ∧ runS g s (w.take k) = some t ∧ nextS g t c = none := by
    intro n
    induction n with
    | zero => intro _; exact .inl fun k hk => ⟨s, by obtain rfl : k = 0 := by omega
                                                     rfl⟩
    | succ n ih =>
      intro hn
      rcases ih (by omega) with h | ⟨k, t, c, h1, h2⟩
      · obtain ⟨t, ht⟩ := h n (Nat.le_refl _)
        have hc : w[n]? = some w[n] := List.getElem?_eq_getElem (by omega)
        cases hnx : nextS g t w[n] with
        | none => exact .inr ⟨n, t, w[n], by omega, hc, h, ht, hnx⟩
        | some u =>
          refine .inl fun k hk => ?_
          by_cases e : k = n + 1
          · subst e; exact ⟨u, by rw [run_take_next hc, ht]; exact hnx⟩
          · exact h k (by omega)
      · exact .inr ⟨k, t, c, by omega, h2⟩
  exact key w.length (Nat.le_refl _)
theorem ref_Has_eq {g : TGraph} (hs : Short g) (hr : RightP g) {w : Str} (hw : w.length ≤ 1000) : scansionref17_Has g w = some (hasS g w) := by
  unfold scansionref17_Has
  rw [ref_Right_eq hs, Option.bind_some, if_neg (by simp [hr]), start_w hr]
  have hst0 : 0 ≤ (g.Final.length : Int) - 1 := by have := hr.lo; omega
  have hst1 : (g.Final.length : Int) - 1 < g.Final.length := by omega
  have step : ∀ k t, k < w.length → runS g ((g.Final.length : Int) - 1) (w.take k) = some t → ∀ c, w[k]? = some c → scansionref17_Has.b1 g w (t, (k : Int)) = (match nextS g t c with | some u => some (.next (u, ((k + 1 : Nat) : Int))) | none => some (.done false)) := fun k t hk ht c hc => by
    have hb := runS_ok hr hst0 hst1 ht
    rw [scansionref17_Has.b1, if_pos (by rw [decide_eq_true_eq]; omega), idx_nat, hc, Option.bind_some, ref_to_eq hs hr hb.1 hb.2, Option.bind_some]
    cases hn : nextS g t c with
    | none => rfl
    | some u =>
      have := next_ok hr hb.1 hb.2 hn
      simp only [Option.getD_some]
      rw [if_neg (by rw [decide_eq_true_eq]; omega), w64s (by omega)]
  rcases run_split g ((g.Final.length : Int) - 1) w with hall | ⟨k, t, c, hk, hc, hpre, ht, hn⟩
  · have := Loop_run (b := scansionref17_Has.b1 g w) (fun k => ((runS g ((g.Final.length : Int) - 1) (w.take k)).getD 0, (k : Int))) (i := 0) (n := w.length) (Nat.zero_le _) (fun k _ hk => by
      obtain ⟨t, ht⟩ := hall k (by omega)
      obtain ⟨u, hu⟩ := hall (k + 1) (by omega)
      have hc : w[k]? = some w[k] := List.getElem?_eq_getElem hk
      have hn : nextS g t w[k] = some u := by rw [run_take_next hc, ht] at hu; exact hu
      simp only [ht, hu, Option.getD_some]
      rw [step k t hk ht _ hc, hn])
    simp only [List.take_zero, List.take_length, runS, Option.getD_some] at this
    rw [show ((0 : Nat) : Int) = 0 from rfl] at this
    rw [this]
    obtain ⟨t, ht⟩ := hall w.length (Nat.le_refl _)
    rw [List.take_length] at ht
    have hb := runS_ok hr hst0 hst1 ht
    obtain ⟨b, hb1, hb2⟩ := final_at hb.1 hb.2
    apply Loop_end
    rw [ht, Option.getD_some, scansionref17_Has.b1, if_neg (by rw [decide_eq_true_eq]; omega)]
    unfold scansionref17_Has.k1
    rw [hb1]
    simp [hasS, ht, hb2]
  · have := Loop_run (b := scansionref17_Has.b1 g w) (fun k => ((runS g ((g.Final.length : Int) - 1) (w.take k)).getD 0, (k : Int))) (i := 0) (n := k) (Nat.zero_le _) (fun j _ hj => by
      obtain ⟨t, ht⟩ := hpre j (by omega)
      obtain ⟨u, hu⟩ := hpre (j + 1) (by omega)
      have hc : w[j]? = some (w[j]'(by omega)) := List.getElem?_eq_getElem _
      have hn : nextS g t (w[j]'(by omega)) = some u := by rw [run_take_next hc, ht] at hu; exact hu
      simp only [ht, hu, Option.getD_some]
      rw [step j t (by omega) ht _ hc, hn])
    simp only [List.take_zero, runS, Option.getD_some, ht] at this
    rw [show ((0 : Nat) : Int) = 0 from rfl] at this
    rw [this]
    have hnone : runS g ((g.Final.length : Int) - 1) w = none := by
      have h1 : runS g ((g.Final.length : Int) - 1) (w.take (k + 1)) = none := by rw [run_take_next hc, ht]; exact hn
      have := run_take_none h1 w.length (by omega)
      rwa [List.take_length] at this
    rw [Loop_done (r := false) (by rw [step k t hk ht c hc, hn])]
    simp [hasS, hnone]
end Go.Val

/- part P7 -/
/- Plain lemmas: the farm's walk and Has. -/
namespace Go.Val
set_option linter.unusedVariables false
def stsS (g : TGraph) (s : Int) (w : Str) (j : Nat) : List Int := (List.range (j + 1)).map fun k => (runS g s (w.take k)).getD 0
theorem stsS_len {g : TGraph} {s : Int} {w : Str} {j : Nat} : (stsS g s w j).length = j + 1 := by simp [stsS]
theorem stsS_at {g : TGraph} {s : Int} {w : Str} {j k : Nat} {t : Int} (hk : k ≤ j) (h : runS g s (w.take k) = some t) : idx (stsS g s w j) (k : Int) = some t := by
  rw [idx_nat]
  unfold stsS
  rw [List.getElem?_map, List.getElem?_range (by omega)]
  simp [h]
theorem stsS_snoc {g : TGraph} {s : Int} {w : Str} {j : Nat} {t : Int} (h : runS g s (w.take (j + 1)) = some t) : stsS g s w (j + 1) = stsS g s w j ++ [t] := by
  unfold stsS
  rw [List.range_succ (n := j + 1), List.map_append]
  simp [h]
theorem walk_step {g : TGraph} (hs : Short g) (hr : RightP g) {w : Str} (hw : w.length ≤ 1000000) {s : Int} (h0 : 0 ≤ s) (h1 : s < g.Final.length) {k : Nat} {t : Int} {c : UInt8} (hk : k < w.length) (hc : w[k]? = some c) (ht : runS g s (w.take k) = some t) :
    dawg_walk.b1 g w (stsS g s w k, (k : Int)) = (match nextS g t c with | some u => some (.next (stsS g s w (k + 1), ((k + 1 : Nat) : Int))) | none => some (.done ([], false))) := by
  have hb := runS_ok hr h0 h1 ht
  obtain ⟨xs, hi, hx, hm⟩ := row_at hr hb.1 hb.2
  have hl := hs xs hm
  have hf : slices_IndexFunc_api_Edge_api_Edge xs (fun x0 => dawg_walk_1 x0 w (k : Int)) = some (find (isLab c) xs) :=
    IndexFunc_edge (fun x _ => by rw [lab_f hc, lab_eq]; rfl) hl
  have hlen : (stsS g s w k).length = k + 1 := stsS_len
  rw [dawg_walk.b1, if_pos (by rw [decide_eq_true_eq]; omega), stsS_at (Nat.le_refl _) ht, Option.bind_some, hi, Option.bind_some, hf, Option.bind_some]
  have hn : nextS g t c = (xs[xs.findIdx (isLab c)]?).map TEdge.To := by unfold nextS; rw [hx, Option.bind_some]
  rw [hn]
  by_cases h : xs.findIdx (isLab c) < xs.length
  · have hx1 : xs[xs.findIdx (isLab c)]? = some xs[xs.findIdx (isLab c)] := List.getElem?_eq_getElem h
    have hfd : find (isLab c) xs = (xs.findIdx (isLab c) : Int) := by unfold find; rw [if_pos h]
    have hnext : runS g s (w.take (k + 1)) = some (xs[xs.findIdx (isLab c)]).To := by rw [run_take_next hc, ht, Option.bind_some, hn, hx1]; rfl
    rw [hfd, if_neg (by rw [decide_eq_true_eq]; omega), idx_nat, hx1, Option.bind_some, room_ok (by rw [hlen]; omega), Option.bind_some, w64s (by omega), stsS_snoc hnext]
    rfl
  · have hfd : find (isLab c) xs = -1 := by unfold find; rw [if_neg h]
    rw [hfd, if_pos (by decide), List.getElem?_eq_none (by omega)]
    rfl
/-- The walk: the states on the way, or nothing. -/
theorem dawg_walk_eq {g : TGraph} (hs : Short g) (hr : RightP g) {w : Str} (hw : w.length ≤ 1000000) : dawg_walk g w = some (if (runS g ((g.Final.length : Int) - 1) w).isSome then (stsS g ((g.Final.length : Int) - 1) w w.length, true) else ([], false)) := by
  unfold dawg_walk
  rw [start_w hr]
  have hst0 : 0 ≤ (g.Final.length : Int) - 1 := by have := hr.lo; omega
  have hst1 : (g.Final.length : Int) - 1 < g.Final.length := by omega
  have e0 : [(g.Final.length : Int) - 1] = stsS g ((g.Final.length : Int) - 1) w 0 := by simp [stsS, runS]
  rw [e0]
  rcases run_split g ((g.Final.length : Int) - 1) w with hall | ⟨k, t, c, hk, hc, hpre, ht, hn⟩
  · have := Loop_run (b := dawg_walk.b1 g w) (fun k => (stsS g ((g.Final.length : Int) - 1) w k, (k : Int))) (i := 0) (n := w.length) (Nat.zero_le _) (fun k _ hk => by
      obtain ⟨t, ht⟩ := hall k (by omega)
      obtain ⟨u, hu⟩ := hall (k + 1) (by omega)
      have hc : w[k]? = some w[k] := List.getElem?_eq_getElem hk
      have hn : nextS g t w[k] = some u := by rw [run_take_next hc, ht] at hu; exact hu
      show dawg_walk.b1 g w (stsS g _ w k, (k : Int)) = _
      rw [walk_step hs hr hw hst0 hst1 hk hc ht, hn])
    simp only [show ((0 : Nat) : Int) = 0 from rfl] at this
    rw [this]
    obtain ⟨t, ht⟩ := hall w.length (Nat.le_refl _)
    rw [List.take_length] at ht
    apply Loop_end
    simp only [ht, Option.isSome_some, if_true]
    rw [dawg_walk.b1, if_neg (by rw [decide_eq_true_eq]; omega)]
    rfl
  · have := Loop_run (b := dawg_walk.b1 g w) (fun k => (stsS g ((g.Final.length : Int) - 1) w k, (k : Int))) (i := 0) (n := k) (Nat.zero_le _) (fun j _ hj => by
      obtain ⟨t, ht⟩ := hpre j (by omega)
      obtain ⟨u, hu⟩ := hpre (j + 1) (by omega)
      have hc : w[j]? = some (w[j]'(by omega)) := List.getElem?_eq_getElem _
      have hn : nextS g t (w[j]'(by omega)) = some u := by rw [run_take_next hc, ht] at hu; exact hu
      show dawg_walk.b1 g w (stsS g _ w j, (j : Int)) = _
      rw [walk_step hs hr hw hst0 hst1 (by omega) hc ht, hn])
    simp only [show ((0 : Nat) : Int) = 0 from rfl] at this
    rw [this]
    have hnone : runS g ((g.Final.length : Int) - 1) w = none := by
      have h1 : runS g ((g.Final.length : Int) - 1) (w.take (k + 1)) = none := by rw [run_take_next hc, ht]; exact hn
      have := run_take_none h1 w.length (by omega)
      rwa [List.take_length] at this
    rw [Loop_done (r := ([], false)) (by rw [walk_step hs hr hw hst0 hst1 hk hc ht, hn]), hnone]
    rfl
theorem run_last {g : TGraph} (hr : RightP g) {w : Str} {t : Int} (h : runS g ((g.Final.length : Int) - 1) w = some t) : idx (stsS g ((g.Final.length : Int) - 1) w w.length) (w.length : Int) = some t ∧ 0 ≤ t ∧ t < g.Final.length :=
  ⟨stsS_at (Nat.le_refl _) (by rw [List.take_length]; exact h), runS_ok hr (by have := hr.lo; omega) (by omega) h⟩
end Go.Val

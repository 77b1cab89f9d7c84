/- A value semantics of the model's programs, sound against it, and functions read off the given program with the proofs that it runs so; no condition. -/
import Derived.Test.YtmbfapppkdiheaaGreatOwnD
import Derived.Test.YtmbfapppkdiheaaGreatOwnC
set_option linter.all false
set_option linter.unnecessarySimpa false
set_option linter.unusedVariables false
set_option linter.unusedSimpArgs false
/- part KW18 -/
/- (*scansion/syntax.checker).right runs as it is read off. -/
namespace Go.Val
set_option linter.unusedVariables false
set_option linter.unusedSimpArgs false
set_option maxRecDepth 20000
open Go.Proofs
theorem syntax_checker_right_runs_r : ∀ (fu : Nat) (c : Tsyntax_checker) (n : TNode) (depth : Int) (signs : Int) (l0 : Nat) {h : Heap} (ha0 : h.at_ l0 = some (.cells [.val (.int .i64 c.sets), .val (.int .i64 c.met)])) {a : (Bool × Tsyntax_checker)} (e : syntax_checker_right.r fu c n depth signs = some a),
    Runs CT 18 [.cv (.val (.ptr (some (l0, 0)))), .cv (.val (.agg [.int .i64 n.Kind, .int .i64 n.Set, .sl (List.map eNode n.Kids)])), .cv (.val (.int .i64 depth)), .cv (.val (.int .i64 signs))] h fun o h' => o = [.cv (.val (.bool a.1))] ∧ h' = (h.upd l0 (.cells [.val (.int .i64 a.2.sets), .val (.int .i64 a.2.met)])) := by
  intro fu
  induction fu with
  | zero => intros; rename_i e; simp [syntax_checker_right.r] at e
  | succ fu ih =>
    intro c n depth signs l0 h ha0 a e
    refine Runs.start Tryz.f18 _ Tryz.func18 rfl (by rw [Tryz.ntmps18]; simp) (by rfl) (by rfl) (fun hwf hu => ?_)
    have hl0 := (hwf _ _ ha0).1
    have kl0 := locF hl0
    obtain ⟨D, hD, hr⟩ : ∃ D : (Bool × Tsyntax_checker) → Prop, (∀ z, D z → z = a) ∧ Holds (syntax_checker_right.r (fu + 1) c n depth signs) D := ⟨fun z => z = a, fun _ h => h, Holds.intro e rfl⟩
    dsimp only [syntax_checker_right.r] at hr
    change wpCode _ _ _ _ _ ⟨[(0, .cv (.val (.ptr (some (l0, 0))))), (1, .cv (.val (.agg [.int .i64 n.Kind, .int .i64 n.Set, .sl (List.map eNode n.Kids)]))), (2, .cv (.val (.int .i64 depth))), (3, .cv (.val (.int .i64 signs)))], h.on []⟩
    refine w_seq ?_
    refine w_region rfl (by simp (disch := (apply Apart.mk; decide)) only [go_sem, Nat.reduceAdd, Nat.reduceLT, Nat.reduceMul, Nat.reduceLeDiff, Int.reduceToNat, Int.reduceLT, Int.reduceLE, ha0, on_atB hl0, lt_add hl0, lt_at hl0, on_updB hl0, on_atU hl0, on_updU hl0, upd_same ha0]; rfl) ?_
    refine w_n ?_
    refine w_seq ?_
    refine w_seq ?_
    refine w_region rfl (by simp (disch := (apply Apart.mk; decide)) only [go_sem, Nat.reduceAdd, Nat.reduceLT, Nat.reduceMul, Nat.reduceLeDiff, Int.reduceToNat, Int.reduceLT, Int.reduceLE, ha0, on_atB hl0, lt_add hl0, lt_at hl0, on_updB hl0, on_atU hl0, on_updU hl0, upd_same ha0]; rfl) ?_
    refine w_n ?_
    refine w_condH (by simp (disch := (apply Apart.mk; decide)) only [go_sem, Nat.reduceAdd, Nat.reduceLT, Nat.reduceMul, Nat.reduceLeDiff, Int.reduceToNat, Int.reduceLT, Int.reduceLE, ha0, on_atB hl0, lt_add hl0, lt_at hl0, on_updB hl0, on_atU hl0, on_updU hl0, upd_same ha0]) hr (fun cF1 hr => ?_) (fun cF1 hr => ?_)
    · refine w_joinR (sj := ⟨[(0, .cv (.val (.ptr (some (l0, 0))))), (5, .cv (.val (.ptr (some (h.n + 0, 0))))), (9, .cv (.val (.bool (((n.Kids.length : Int) == (0 : Int)) && ((decide (n.Set ≥ (0 : Int))) && ((decide (n.Set < c.sets)) && (decide (n.Set ≤ c.met))))))))], h.on [some (.cells [.val (.int .i64 n.Kind), .val (.int .i64 n.Set), .val (.sl (List.map eNode n.Kids))])]⟩) (w_drawn [0, 1, 2, 3, 4, 5, 6, 7, 8, 9, 10, 11, 12, 13, 14, 15, 16, 17, 18, 19, 20, 21, 22, 23, 24, 25, 26, 27] (by rfl) ?_) ?_
      · refine p_run (l := [0, 1, 2, 3, 4]) (pend' := [4, 3, 2, 1, 0]) (by simp (disch := (apply Apart.mk; decide)) only [go_sem, Nat.reduceAdd, Nat.reduceLT, Nat.reduceMul, Nat.reduceLeDiff, Int.reduceToNat, Int.reduceLT, Int.reduceLE, ha0, on_atB hl0, lt_add hl0, lt_at hl0, on_updB hl0, on_atU hl0, on_updU hl0, upd_same ha0]; rfl) rfl ?_
        rcases Bool.eq_false_or_eq_true ((n.Kids.length : Int) == (0 : Int)) with cF2 | cF2
        · refine p_run (l := [5, 6, 7, 8, 9]) (pend' := [9, 8, 7, 6, 5, 4, 3, 2, 1, 0]) (by simp (disch := (apply Apart.mk; decide)) only [go_sem, Nat.reduceAdd, Nat.reduceLT, Nat.reduceMul, Nat.reduceLeDiff, Int.reduceToNat, Int.reduceLT, Int.reduceLE, ha0, on_atB hl0, lt_add hl0, lt_at hl0, on_updB hl0, on_atU hl0, on_updU hl0, upd_same ha0, cF2]; rfl) rfl ?_
          rcases Bool.eq_false_or_eq_true (decide (n.Set ≥ (0 : Int))) with cF3 | cF3
          · refine p_run (l := [10, 11, 12, 13, 14, 15, 16, 17, 18]) (pend' := [18, 17, 16, 15, 14, 13, 12, 11, 10, 9, 8, 7, 6, 5, 4, 3, 2, 1, 0]) (by simp (disch := (apply Apart.mk; decide)) only [go_sem, Nat.reduceAdd, Nat.reduceLT, Nat.reduceMul, Nat.reduceLeDiff, Int.reduceToNat, Int.reduceLT, Int.reduceLE, ha0, on_atB hl0, lt_add hl0, lt_at hl0, on_updB hl0, on_atU hl0, on_updU hl0, upd_same ha0, cF2, cF3]; rfl) rfl ?_
            rcases Bool.eq_false_or_eq_true (decide (n.Set < c.sets)) with cF4 | cF4
            · refine p_run (l := [19, 20, 21, 22, 23, 24, 25, 26]) (pend' := [26, 25, 24, 23, 22, 21, 20, 19, 18, 17, 16, 15, 14, 13, 12, 11, 10, 9, 8, 7, 6, 5, 4, 3, 2, 1, 0]) (by simp (disch := (apply Apart.mk; decide)) only [go_sem, Nat.reduceAdd, Nat.reduceLT, Nat.reduceMul, Nat.reduceLeDiff, Int.reduceToNat, Int.reduceLT, Int.reduceLE, ha0, on_atB hl0, lt_add hl0, lt_at hl0, on_updB hl0, on_atU hl0, on_updU hl0, upd_same ha0, cF2, cF3, cF4]; rfl) rfl ?_
              refine p_op (pend' := []) rfl (by simp (disch := (apply Apart.mk; decide)) only [go_sem, Nat.reduceAdd, Nat.reduceLT, Nat.reduceMul, Nat.reduceLeDiff, Int.reduceToNat, Int.reduceLT, Int.reduceLE, ha0, on_atB hl0, lt_add hl0, lt_at hl0, on_updB hl0, on_atU hl0, on_updU hl0, upd_same ha0, cF2, cF3, cF4]) (by simp (disch := (apply Apart.mk; decide)) only [go_sem, Nat.reduceAdd, Nat.reduceLT, Nat.reduceMul, Nat.reduceLeDiff, Int.reduceToNat, Int.reduceLT, Int.reduceLE, ha0, on_atB hl0, lt_add hl0, lt_at hl0, on_updB hl0, on_atU hl0, on_updU hl0, upd_same ha0, cF2, cF3, cF4]; rfl) (by rfl) ?_
              refine p_end (by simp (disch := (apply Apart.mk; decide)) only [go_sem, Nat.reduceAdd, Nat.reduceLT, Nat.reduceMul, Nat.reduceLeDiff, Int.reduceToNat, Int.reduceLT, Int.reduceLE, ha0, on_atB hl0, lt_add hl0, lt_at hl0, on_updB hl0, on_atU hl0, on_updU hl0, upd_same ha0, cF2, cF3, cF4]) ?_
              exact w_k (To.cut hwf (Nat.le_refl _) (by first | rfl | (simp (disch := (apply Apart.mk; decide)) only [go_sem, Nat.reduceAdd, Nat.reduceLT, Nat.reduceMul, Nat.reduceLeDiff, Int.reduceToNat, Int.reduceLT, Int.reduceLE, ha0, on_atB hl0, lt_add hl0, lt_at hl0, on_updB hl0, on_atU hl0, on_updU hl0, upd_same ha0, cF1, cF2, cF3, cF4]; rfl)) (by simp (disch := (apply Apart.mk; decide)) only [go_sem, Nat.reduceAdd, Nat.reduceLT, Nat.reduceMul, Nat.reduceLeDiff, Int.reduceToNat, Int.reduceLT, Int.reduceLE, ha0, on_atB hl0, lt_add hl0, lt_at hl0, on_updB hl0, on_atU hl0, on_updU hl0, upd_same ha0, cF1, cF2, cF3, cF4]))
            · refine p_run (l := [19, 20, 21, 22, 23, 24, 25, 26]) (pend' := [26, 25, 24, 23, 22, 21, 20, 19, 18, 17, 16, 15, 14, 13, 12, 11, 10, 9, 8, 7, 6, 5, 4, 3, 2, 1, 0]) (by simp (disch := (apply Apart.mk; decide)) only [go_sem, Nat.reduceAdd, Nat.reduceLT, Nat.reduceMul, Nat.reduceLeDiff, Int.reduceToNat, Int.reduceLT, Int.reduceLE, ha0, on_atB hl0, lt_add hl0, lt_at hl0, on_updB hl0, on_atU hl0, on_updU hl0, upd_same ha0, cF2, cF3, cF4]; rfl) rfl ?_
              refine p_op (pend' := []) rfl (by simp (disch := (apply Apart.mk; decide)) only [go_sem, Nat.reduceAdd, Nat.reduceLT, Nat.reduceMul, Nat.reduceLeDiff, Int.reduceToNat, Int.reduceLT, Int.reduceLE, ha0, on_atB hl0, lt_add hl0, lt_at hl0, on_updB hl0, on_atU hl0, on_updU hl0, upd_same ha0, cF2, cF3, cF4]) (by simp (disch := (apply Apart.mk; decide)) only [go_sem, Nat.reduceAdd, Nat.reduceLT, Nat.reduceMul, Nat.reduceLeDiff, Int.reduceToNat, Int.reduceLT, Int.reduceLE, ha0, on_atB hl0, lt_add hl0, lt_at hl0, on_updB hl0, on_atU hl0, on_updU hl0, upd_same ha0, cF2, cF3, cF4]; rfl) (by rfl) ?_
              refine p_end (by simp (disch := (apply Apart.mk; decide)) only [go_sem, Nat.reduceAdd, Nat.reduceLT, Nat.reduceMul, Nat.reduceLeDiff, Int.reduceToNat, Int.reduceLT, Int.reduceLE, ha0, on_atB hl0, lt_add hl0, lt_at hl0, on_updB hl0, on_atU hl0, on_updU hl0, upd_same ha0, cF2, cF3, cF4]) ?_
              exact w_k (To.cut hwf (Nat.le_refl _) (by first | rfl | (simp (disch := (apply Apart.mk; decide)) only [go_sem, Nat.reduceAdd, Nat.reduceLT, Nat.reduceMul, Nat.reduceLeDiff, Int.reduceToNat, Int.reduceLT, Int.reduceLE, ha0, on_atB hl0, lt_add hl0, lt_at hl0, on_updB hl0, on_atU hl0, on_updU hl0, upd_same ha0, cF1, cF2, cF3, cF4]; rfl)) (by simp (disch := (apply Apart.mk; decide)) only [go_sem, Nat.reduceAdd, Nat.reduceLT, Nat.reduceMul, Nat.reduceLeDiff, Int.reduceToNat, Int.reduceLT, Int.reduceLE, ha0, on_atB hl0, lt_add hl0, lt_at hl0, on_updB hl0, on_atU hl0, on_updU hl0, upd_same ha0, cF1, cF2, cF3, cF4]))
          · refine p_run (l := [10, 11, 12, 13, 14, 15, 16, 17, 18, 19, 20, 21, 22, 23, 24, 25, 26]) (pend' := [26, 25, 24, 23, 22, 21, 20, 19, 18, 17, 16, 15, 14, 13, 12, 11, 10, 9, 8, 7, 6, 5, 4, 3, 2, 1, 0]) (by simp (disch := (apply Apart.mk; decide)) only [go_sem, Nat.reduceAdd, Nat.reduceLT, Nat.reduceMul, Nat.reduceLeDiff, Int.reduceToNat, Int.reduceLT, Int.reduceLE, ha0, on_atB hl0, lt_add hl0, lt_at hl0, on_updB hl0, on_atU hl0, on_updU hl0, upd_same ha0, cF2, cF3]; rfl) rfl ?_
            refine p_op (pend' := []) rfl (by simp (disch := (apply Apart.mk; decide)) only [go_sem, Nat.reduceAdd, Nat.reduceLT, Nat.reduceMul, Nat.reduceLeDiff, Int.reduceToNat, Int.reduceLT, Int.reduceLE, ha0, on_atB hl0, lt_add hl0, lt_at hl0, on_updB hl0, on_atU hl0, on_updU hl0, upd_same ha0, cF2, cF3]) (by simp (disch := (apply Apart.mk; decide)) only [go_sem, Nat.reduceAdd, Nat.reduceLT, Nat.reduceMul, Nat.reduceLeDiff, Int.reduceToNat, Int.reduceLT, Int.reduceLE, ha0, on_atB hl0, lt_add hl0, lt_at hl0, on_updB hl0, on_atU hl0, on_updU hl0, upd_same ha0, cF2, cF3]; rfl) (by rfl) ?_
            refine p_end (by simp (disch := (apply Apart.mk; decide)) only [go_sem, Nat.reduceAdd, Nat.reduceLT, Nat.reduceMul, Nat.reduceLeDiff, Int.reduceToNat, Int.reduceLT, Int.reduceLE, ha0, on_atB hl0, lt_add hl0, lt_at hl0, on_updB hl0, on_atU hl0, on_updU hl0, upd_same ha0, cF2, cF3]) ?_
            exact w_k (To.cut hwf (Nat.le_refl _) (by first | rfl | (simp (disch := (apply Apart.mk; decide)) only [go_sem, Nat.reduceAdd, Nat.reduceLT, Nat.reduceMul, Nat.reduceLeDiff, Int.reduceToNat, Int.reduceLT, Int.reduceLE, ha0, on_atB hl0, lt_add hl0, lt_at hl0, on_updB hl0, on_atU hl0, on_updU hl0, upd_same ha0, cF1, cF2, cF3]; rfl)) (by simp (disch := (apply Apart.mk; decide)) only [go_sem, Nat.reduceAdd, Nat.reduceLT, Nat.reduceMul, Nat.reduceLeDiff, Int.reduceToNat, Int.reduceLT, Int.reduceLE, ha0, on_atB hl0, lt_add hl0, lt_at hl0, on_updB hl0, on_atU hl0, on_updU hl0, upd_same ha0, cF1, cF2, cF3]))
        · refine p_run (l := [5, 6, 7, 8, 9, 10, 11, 12, 13, 14, 15, 16, 17, 18, 19, 20, 21, 22, 23, 24, 25, 26]) (pend' := [26, 25, 24, 23, 22, 21, 20, 19, 18, 17, 16, 15, 14, 13, 12, 11, 10, 9, 8, 7, 6, 5, 4, 3, 2, 1, 0]) (by simp (disch := (apply Apart.mk; decide)) only [go_sem, Nat.reduceAdd, Nat.reduceLT, Nat.reduceMul, Nat.reduceLeDiff, Int.reduceToNat, Int.reduceLT, Int.reduceLE, ha0, on_atB hl0, lt_add hl0, lt_at hl0, on_updB hl0, on_atU hl0, on_updU hl0, upd_same ha0, cF2]; rfl) rfl ?_
          refine p_op (pend' := []) rfl (by simp (disch := (apply Apart.mk; decide)) only [go_sem, Nat.reduceAdd, Nat.reduceLT, Nat.reduceMul, Nat.reduceLeDiff, Int.reduceToNat, Int.reduceLT, Int.reduceLE, ha0, on_atB hl0, lt_add hl0, lt_at hl0, on_updB hl0, on_atU hl0, on_updU hl0, upd_same ha0, cF2]) (by simp (disch := (apply Apart.mk; decide)) only [go_sem, Nat.reduceAdd, Nat.reduceLT, Nat.reduceMul, Nat.reduceLeDiff, Int.reduceToNat, Int.reduceLT, Int.reduceLE, ha0, on_atB hl0, lt_add hl0, lt_at hl0, on_updB hl0, on_atU hl0, on_updU hl0, upd_same ha0, cF2]; rfl) (by rfl) ?_
          refine p_end (by simp (disch := (apply Apart.mk; decide)) only [go_sem, Nat.reduceAdd, Nat.reduceLT, Nat.reduceMul, Nat.reduceLeDiff, Int.reduceToNat, Int.reduceLT, Int.reduceLE, ha0, on_atB hl0, lt_add hl0, lt_at hl0, on_updB hl0, on_atU hl0, on_updU hl0, upd_same ha0, cF2]) ?_
          exact w_k (To.cut hwf (Nat.le_refl _) (by first | rfl | (simp (disch := (apply Apart.mk; decide)) only [go_sem, Nat.reduceAdd, Nat.reduceLT, Nat.reduceMul, Nat.reduceLeDiff, Int.reduceToNat, Int.reduceLT, Int.reduceLE, ha0, on_atB hl0, lt_add hl0, lt_at hl0, on_updB hl0, on_atU hl0, on_updU hl0, upd_same ha0, cF1, cF2]; rfl)) (by simp (disch := (apply Apart.mk; decide)) only [go_sem, Nat.reduceAdd, Nat.reduceLT, Nat.reduceMul, Nat.reduceLeDiff, Int.reduceToNat, Int.reduceLT, Int.reduceLE, ha0, on_atB hl0, lt_add hl0, lt_at hl0, on_updB hl0, on_atU hl0, on_updU hl0, upd_same ha0, cF1, cF2]))
      refine w_seq ?_
      refine w_drawn [0, 1, 2, 3, 4, 5, 6, 7, 8, 9, 10, 11, 12, 13, 14, 15, 16] (by rfl) ?_
      refine p_run (l := [0, 1, 2, 3, 4, 5, 6, 7, 8, 9, 10, 11, 12, 13, 14, 15]) (pend' := [15, 14, 13, 12, 11, 10, 9, 8, 7, 6, 5, 4, 3, 2, 1, 0]) (by simp (disch := (apply Apart.mk; decide)) only [go_sem, Nat.reduceAdd, Nat.reduceLT, Nat.reduceMul, Nat.reduceLeDiff, Int.reduceToNat, Int.reduceLT, Int.reduceLE, ha0, on_atB hl0, lt_add hl0, lt_at hl0, on_updB hl0, on_atU hl0, on_updU hl0, upd_same ha0]; rfl) rfl ?_
      refine p_op (pend' := []) rfl (by simp (disch := (apply Apart.mk; decide)) only [go_sem, Nat.reduceAdd, Nat.reduceLT, Nat.reduceMul, Nat.reduceLeDiff, Int.reduceToNat, Int.reduceLT, Int.reduceLE, ha0, on_atB hl0, lt_add hl0, lt_at hl0, on_updB hl0, on_atU hl0, on_updU hl0, upd_same ha0]) (by simp (disch := (apply Apart.mk; decide)) only [go_sem, Nat.reduceAdd, Nat.reduceLT, Nat.reduceMul, Nat.reduceLeDiff, Int.reduceToNat, Int.reduceLT, Int.reduceLE, ha0, on_atB hl0, lt_add hl0, lt_at hl0, on_updB hl0, on_atU hl0, on_updU hl0, upd_same ha0]; rfl) (by rfl) ?_
      refine p_end (by simp (disch := (apply Apart.mk; decide)) only [go_sem, Nat.reduceAdd, Nat.reduceLT, Nat.reduceMul, Nat.reduceLeDiff, Int.reduceToNat, Int.reduceLT, Int.reduceLE, ha0, on_atB hl0, lt_add hl0, lt_at hl0, on_updB hl0, on_atU hl0, on_updU hl0, upd_same ha0]) ?_
      refine w_n ?_
      refine w_seq ?_
      refine w_region rfl (by simp (disch := (apply Apart.mk; decide)) only [go_sem, Nat.reduceAdd, Nat.reduceLT, Nat.reduceMul, Nat.reduceLeDiff, Int.reduceToNat, Int.reduceLT, Int.reduceLE, ha0, on_atB hl0, lt_add hl0, lt_at hl0, on_updB hl0, on_atU hl0, on_updU hl0, upd_same ha0, cF1]; rfl) ?_
      refine w_n ?_
      refine w_ret ?_
      obtain rfl := hD _ hr
      exact (w_tr (w_endR (To.cut (os' := []) (sl := [(8, .cv (.val (.bool (((n.Kids.length : Int) == (0 : Int)) && ((decide (n.Set ≥ (0 : Int))) && ((decide (n.Set < c.sets)) && (decide (n.Set ≤ c.met))))))))]) (h := (h.upd l0 (.cells [.val (.int .i64 c.sets), .val (.int .i64 (mx c.met (IntKind.i64.wrap ((mn n.Set c.sets) + (1 : Int)))))]))) (WF.upd hwf hl0 (by simp (disch := (apply Apart.mk; decide)) only [go_sem, Nat.reduceAdd, Nat.reduceLT, Nat.reduceMul, Nat.reduceLeDiff, Int.reduceToNat, Int.reduceLT, Int.reduceLE, ha0, on_atB hl0, lt_add hl0, lt_at hl0, on_updB hl0, on_atU hl0, on_updU hl0, upd_same ha0])) (Nat.le_refl _) (by first | rfl | (simp (disch := (apply Apart.mk; decide)) only [go_sem, Nat.reduceAdd, Nat.reduceLT, Nat.reduceMul, Nat.reduceLeDiff, Int.reduceToNat, Int.reduceLT, Int.reduceLE, ha0, on_atB hl0, lt_add hl0, lt_at hl0, on_updB hl0, on_atU hl0, on_updU hl0, upd_same ha0, cF1]; rfl)) (by simp (disch := (apply Apart.mk; decide)) only [go_sem, Nat.reduceAdd, Nat.reduceLT, Nat.reduceMul, Nat.reduceLeDiff, Int.reduceToNat, Int.reduceLT, Int.reduceLE, ha0, on_atB hl0, lt_add hl0, lt_at hl0, on_updB hl0, on_atU hl0, on_updU hl0, upd_same ha0, cF1])) (by simp (disch := (apply Apart.mk; decide)) only [go_sem, Nat.reduceAdd, Nat.reduceLT, Nat.reduceMul, Nat.reduceLeDiff, Int.reduceToNat, Int.reduceLT, Int.reduceLE, ha0, on_atB hl0, lt_add hl0, lt_at hl0, on_updB hl0, on_atU hl0, on_updU hl0, upd_same ha0, Tryz.results18, results_data CT_gives18, resCell, resVal.eq_2, loadOp_sv, cF1]) ⟨rfl, on_nil (h := (h.upd l0 (.cells [.val (.int .i64 c.sets), .val (.int .i64 (mx c.met (IntKind.i64.wrap ((mn n.Set c.sets) + (1 : Int)))))]))) (WF.upd hwf hl0 (by simp (disch := (apply Apart.mk; decide)) only [go_sem, Nat.reduceAdd, Nat.reduceLT, Nat.reduceMul, Nat.reduceLeDiff, Int.reduceToNat, Int.reduceLT, Int.reduceLE, ha0, on_atB hl0, lt_add hl0, lt_at hl0, on_updB hl0, on_atU hl0, on_updU hl0, upd_same ha0]))⟩))
    · refine w_skip ?_
      refine w_n ?_
      refine w_seq ?_
      refine w_seq ?_
      refine w_region rfl (by simp (disch := (apply Apart.mk; decide)) only [go_sem, Nat.reduceAdd, Nat.reduceLT, Nat.reduceMul, Nat.reduceLeDiff, Int.reduceToNat, Int.reduceLT, Int.reduceLE, ha0, on_atB hl0, lt_add hl0, lt_at hl0, on_updB hl0, on_atU hl0, on_updU hl0, upd_same ha0, cF1]; rfl) ?_
      refine w_n ?_
      refine w_seq ?_
      refine A_ops ?_
      refine w_upto 1 rfl (by simp (disch := (apply Apart.mk; decide)) only [go_sem, Nat.reduceAdd, Nat.reduceLT, Nat.reduceMul, Nat.reduceLeDiff, Int.reduceToNat, Int.reduceLT, Int.reduceLE, ha0, on_atB hl0, lt_add hl0, lt_at hl0, on_updB hl0, on_atU hl0, on_updU hl0, upd_same ha0]; rfl) ?_
      obtain ⟨r, eF5, hr⟩ := hr.bind
      refine w_call' (out := ?o_eF5) (hp := ?p_eF5) rfl (by simp (disch := (apply Apart.mk; decide)) only [go_sem, Nat.reduceAdd, Nat.reduceLT, Nat.reduceMul, Nat.reduceLeDiff, Int.reduceToNat, Int.reduceLT, Int.reduceLE, ha0, on_atB hl0, lt_add hl0, lt_at hl0, on_updB hl0, on_atU hl0, on_updU hl0, upd_same ha0, Option.getD_some]; rfl) (by simp (disch := (apply Apart.mk; decide)) only [go_sem, Nat.reduceAdd, Nat.reduceLT, Nat.reduceMul, Nat.reduceLeDiff, Int.reduceToNat, Int.reduceLT, Int.reduceLE, ha0, on_atB hl0, lt_add hl0, lt_at hl0, on_updB hl0, on_atU hl0, on_updU hl0, upd_same ha0, Option.getD_some]; rfl) (by simp (disch := (apply Apart.mk; decide)) only [go_sem, Nat.reduceAdd, Nat.reduceLT, Nat.reduceMul, Nat.reduceLeDiff, Int.reduceToNat, Int.reduceLT, Int.reduceLE, ha0, on_atB hl0, lt_add hl0, lt_at hl0, on_updB hl0, on_atU hl0, on_updU hl0, upd_same ha0, Option.getD_some]; rfl) ?c_eF5 ?d_eF5 ?_
      case c_eF5 => exact syntax_signed_runs n eF5
      case d_eF5 => rfl
      refine w_ops_end (by simp (disch := (apply Apart.mk; decide)) only [go_sem, Nat.reduceAdd, Nat.reduceLT, Nat.reduceMul, Nat.reduceLeDiff, Int.reduceToNat, Int.reduceLT, Int.reduceLE, ha0, on_atB hl0, lt_add hl0, lt_at hl0, on_updB hl0, on_atU hl0, on_updU hl0, upd_same ha0]; rfl) ?_
      refine w_n ?_
      refine w_K (D := D) (fun xX : Int => ⟨[(0, .cv (.val (.ptr (some (l0, 0))))), (2, .cv (.val (.int .i64 depth))), (3, .cv (.val (.int .i64 xX))), (5, .cv (.val (.ptr (some (h.n + 0, 0)))))], h.on [some (.cells [.val (.int .i64 n.Kind), .val (.int .i64 n.Set), .val (.sl (List.map eNode n.Kids))])]⟩) (fun xX : Int => syntax_checker_right.k1 (syntax_checker_right.r fu) c n depth xX) (fun xX s' hr ht => ?_) ?_
      · obtain ⟨signs1, rfl⟩ : ∃ z, z = xX := ⟨xX, rfl⟩
        dsimp only [syntax_checker_right.k1] at hr ht
        refine (w_nT ht ?_)
        refine w_seq ?_
        obtain ⟨v, vF9, hr⟩ := hr.bind
        refine w_joinR (sj := ⟨[(0, .cv (.val (.ptr (some (l0, 0))))), (2, .cv (.val (.int .i64 depth))), (3, .cv (.val (.int .i64 signs1))), (5, .cv (.val (.ptr (some (h.n + 0, 0))))), (76, .cv (.val (.bool v)))], h.on [some (.cells [.val (.int .i64 n.Kind), .val (.int .i64 n.Set), .val (.sl (List.map eNode n.Kids))])]⟩) (A_ops ?_) ?_
        · have hr := Holds.intro (D := fun z => z = v) vF9 rfl
          refine w_upto 1 rfl (by simp (disch := (apply Apart.mk; decide)) only [go_sem, Nat.reduceAdd, Nat.reduceLT, Nat.reduceMul, Nat.reduceLeDiff, Int.reduceToNat, Int.reduceLT, Int.reduceLE, ha0, on_atB hl0, lt_add hl0, lt_at hl0, on_updB hl0, on_atU hl0, on_updU hl0, upd_same ha0]; rfl) ?_
          obtain ⟨r1, eF6, hr⟩ := hr.bind
          refine w_call' (out := ?o_eF6) (hp := ?p_eF6) rfl (by simp (disch := (apply Apart.mk; decide)) only [go_sem, Nat.reduceAdd, Nat.reduceLT, Nat.reduceMul, Nat.reduceLeDiff, Int.reduceToNat, Int.reduceLT, Int.reduceLE, ha0, on_atB hl0, lt_add hl0, lt_at hl0, on_updB hl0, on_atU hl0, on_updU hl0, upd_same ha0, Option.getD_some]; rfl) (by simp (disch := (apply Apart.mk; decide)) only [go_sem, Nat.reduceAdd, Nat.reduceLT, Nat.reduceMul, Nat.reduceLeDiff, Int.reduceToNat, Int.reduceLT, Int.reduceLE, ha0, on_atB hl0, lt_add hl0, lt_at hl0, on_updB hl0, on_atU hl0, on_updU hl0, upd_same ha0, Option.getD_some]; rfl) (by simp (disch := (apply Apart.mk; decide)) only [go_sem, Nat.reduceAdd, Nat.reduceLT, Nat.reduceMul, Nat.reduceLeDiff, Int.reduceToNat, Int.reduceLT, Int.reduceLE, ha0, on_atB hl0, lt_add hl0, lt_at hl0, on_updB hl0, on_atU hl0, on_updU hl0, upd_same ha0, Option.getD_some]; rfl) ?c_eF6 ?d_eF6 ?_
          case c_eF6 => exact syntax_fits_runs n eF6
          case d_eF6 => rfl
          refine w_upto 2 rfl (by simp (disch := (apply Apart.mk; decide)) only [go_sem, Nat.reduceAdd, Nat.reduceLT, Nat.reduceMul, Nat.reduceLeDiff, Int.reduceToNat, Int.reduceLT, Int.reduceLE, ha0, on_atB hl0, lt_add hl0, lt_at hl0, on_updB hl0, on_atU hl0, on_updU hl0, upd_same ha0]; rfl) ?_
          rcases hr.ite with ⟨cF7, hr⟩ | ⟨cF7, hr⟩
          · refine w_ops_end (by simp (disch := (apply Apart.mk; decide)) only [go_sem, Nat.reduceAdd, Nat.reduceLT, Nat.reduceMul, Nat.reduceLeDiff, Int.reduceToNat, Int.reduceLT, Int.reduceLE, ha0, on_atB hl0, lt_add hl0, lt_at hl0, on_updB hl0, on_atU hl0, on_updU hl0, upd_same ha0, cF7]; rfl) ?_
            obtain rfl : _ = v := hr
            exact w_k (To.cut hwf (Nat.le_refl _) (by first | rfl | (simp (disch := (apply Apart.mk; decide)) only [go_sem, Nat.reduceAdd, Nat.reduceLT, Nat.reduceMul, Nat.reduceLeDiff, Int.reduceToNat, Int.reduceLT, Int.reduceLE, ha0, on_atB hl0, lt_add hl0, lt_at hl0, on_updB hl0, on_atU hl0, on_updU hl0, upd_same ha0, cF1, cF7]; rfl)) (by simp (disch := (apply Apart.mk; decide)) only [go_sem, Nat.reduceAdd, Nat.reduceLT, Nat.reduceMul, Nat.reduceLeDiff, Int.reduceToNat, Int.reduceLT, Int.reduceLE, ha0, on_atB hl0, lt_add hl0, lt_at hl0, on_updB hl0, on_atU hl0, on_updU hl0, upd_same ha0, cF1, cF7]))
          · refine w_upto 5 rfl (by simp (disch := (apply Apart.mk; decide)) only [go_sem, Nat.reduceAdd, Nat.reduceLT, Nat.reduceMul, Nat.reduceLeDiff, Int.reduceToNat, Int.reduceLT, Int.reduceLE, ha0, on_atB hl0, lt_add hl0, lt_at hl0, on_updB hl0, on_atU hl0, on_updU hl0, upd_same ha0, cF7]; rfl) ?_
            rcases hr.ite with ⟨cF8, hr⟩ | ⟨cF8, hr⟩
            · refine w_ops_end (by simp (disch := (apply Apart.mk; decide)) only [go_sem, Nat.reduceAdd, Nat.reduceLT, Nat.reduceMul, Nat.reduceLeDiff, Int.reduceToNat, Int.reduceLT, Int.reduceLE, ha0, on_atB hl0, lt_add hl0, lt_at hl0, on_updB hl0, on_atU hl0, on_updU hl0, upd_same ha0, cF7, cF8]; rfl) ?_
              obtain rfl : _ = v := hr
              exact w_k (To.cut hwf (Nat.le_refl _) (by first | rfl | (simp (disch := (apply Apart.mk; decide)) only [go_sem, Nat.reduceAdd, Nat.reduceLT, Nat.reduceMul, Nat.reduceLeDiff, Int.reduceToNat, Int.reduceLT, Int.reduceLE, ha0, on_atB hl0, lt_add hl0, lt_at hl0, on_updB hl0, on_atU hl0, on_updU hl0, upd_same ha0, cF1, cF7, cF8]; rfl)) (by simp (disch := (apply Apart.mk; decide)) only [go_sem, Nat.reduceAdd, Nat.reduceLT, Nat.reduceMul, Nat.reduceLeDiff, Int.reduceToNat, Int.reduceLT, Int.reduceLE, ha0, on_atB hl0, lt_add hl0, lt_at hl0, on_updB hl0, on_atU hl0, on_updU hl0, upd_same ha0, cF1, cF7, cF8]))
            · refine w_ops_end (by simp (disch := (apply Apart.mk; decide)) only [go_sem, Nat.reduceAdd, Nat.reduceLT, Nat.reduceMul, Nat.reduceLeDiff, Int.reduceToNat, Int.reduceLT, Int.reduceLE, ha0, on_atB hl0, lt_add hl0, lt_at hl0, on_updB hl0, on_atU hl0, on_updU hl0, upd_same ha0, cF7, cF8]; rfl) ?_
              obtain rfl : _ = v := hr
              exact w_k (To.cut hwf (Nat.le_refl _) (by first | rfl | (simp (disch := (apply Apart.mk; decide)) only [go_sem, Nat.reduceAdd, Nat.reduceLT, Nat.reduceMul, Nat.reduceLeDiff, Int.reduceToNat, Int.reduceLT, Int.reduceLE, ha0, on_atB hl0, lt_add hl0, lt_at hl0, on_updB hl0, on_atU hl0, on_updU hl0, upd_same ha0, cF1, cF7, cF8]; rfl)) (by simp (disch := (apply Apart.mk; decide)) only [go_sem, Nat.reduceAdd, Nat.reduceLT, Nat.reduceMul, Nat.reduceLeDiff, Int.reduceToNat, Int.reduceLT, Int.reduceLE, ha0, on_atB hl0, lt_add hl0, lt_at hl0, on_updB hl0, on_atU hl0, on_updU hl0, upd_same ha0, cF1, cF7, cF8]))
        refine w_condH (by simp (disch := (apply Apart.mk; decide)) only [go_sem, Nat.reduceAdd, Nat.reduceLT, Nat.reduceMul, Nat.reduceLeDiff, Int.reduceToNat, Int.reduceLT, Int.reduceLE, ha0, on_atB hl0, lt_add hl0, lt_at hl0, on_updB hl0, on_atU hl0, on_updU hl0, upd_same ha0, cF1]) hr (fun cF10 hr => ?_) (fun cF10 hr => ?_)
        · refine w_seq ?_
          refine w_region rfl (by simp (disch := (apply Apart.mk; decide)) only [go_sem, Nat.reduceAdd, Nat.reduceLT, Nat.reduceMul, Nat.reduceLeDiff, Int.reduceToNat, Int.reduceLT, Int.reduceLE, ha0, on_atB hl0, lt_add hl0, lt_at hl0, on_updB hl0, on_atU hl0, on_updU hl0, upd_same ha0, cF1, cF10]; rfl) ?_
          refine w_n ?_
          refine w_ret ?_
          obtain rfl := hD _ hr
          exact (w_tr (w_endR (To.cut (os' := []) (sl := [(8, .cv (.val (.bool false)))]) (h := (h.upd l0 (.cells [.val (.int .i64 c.sets), .val (.int .i64 c.met)]))) (WF.upd hwf hl0 (by simp (disch := (apply Apart.mk; decide)) only [go_sem, Nat.reduceAdd, Nat.reduceLT, Nat.reduceMul, Nat.reduceLeDiff, Int.reduceToNat, Int.reduceLT, Int.reduceLE, ha0, on_atB hl0, lt_add hl0, lt_at hl0, on_updB hl0, on_atU hl0, on_updU hl0, upd_same ha0])) (Nat.le_refl _) (by first | rfl | (simp (disch := (apply Apart.mk; decide)) only [go_sem, Nat.reduceAdd, Nat.reduceLT, Nat.reduceMul, Nat.reduceLeDiff, Int.reduceToNat, Int.reduceLT, Int.reduceLE, ha0, on_atB hl0, lt_add hl0, lt_at hl0, on_updB hl0, on_atU hl0, on_updU hl0, upd_same ha0, cF1, cF10]; rfl)) (by simp (disch := (apply Apart.mk; decide)) only [go_sem, Nat.reduceAdd, Nat.reduceLT, Nat.reduceMul, Nat.reduceLeDiff, Int.reduceToNat, Int.reduceLT, Int.reduceLE, ha0, on_atB hl0, lt_add hl0, lt_at hl0, on_updB hl0, on_atU hl0, on_updU hl0, upd_same ha0, cF1, cF10])) (by simp (disch := (apply Apart.mk; decide)) only [go_sem, Nat.reduceAdd, Nat.reduceLT, Nat.reduceMul, Nat.reduceLeDiff, Int.reduceToNat, Int.reduceLT, Int.reduceLE, ha0, on_atB hl0, lt_add hl0, lt_at hl0, on_updB hl0, on_atU hl0, on_updU hl0, upd_same ha0, Tryz.results18, results_data CT_gives18, resCell, resVal.eq_2, loadOp_sv, cF1, cF10]) ⟨rfl, on_nil (h := (h.upd l0 (.cells [.val (.int .i64 c.sets), .val (.int .i64 c.met)]))) (WF.upd hwf hl0 (by simp (disch := (apply Apart.mk; decide)) only [go_sem, Nat.reduceAdd, Nat.reduceLT, Nat.reduceMul, Nat.reduceLeDiff, Int.reduceToNat, Int.reduceLT, Int.reduceLE, ha0, on_atB hl0, lt_add hl0, lt_at hl0, on_updB hl0, on_atU hl0, on_updU hl0, upd_same ha0]))⟩))
        · refine w_skip ?_
          refine w_n ?_
          refine w_seq ?_
          refine w_seq ?_
          refine w_region rfl (by simp (disch := (apply Apart.mk; decide)) only [go_sem, Nat.reduceAdd, Nat.reduceLT, Nat.reduceMul, Nat.reduceLeDiff, Int.reduceToNat, Int.reduceLT, Int.reduceLE, ha0, on_atB hl0, lt_add hl0, lt_at hl0, on_updB hl0, on_atU hl0, on_updU hl0, upd_same ha0, cF1, cF10]; rfl) ?_
          refine w_n ?_
          refine w_K (D := D) (fun xX : (Int × Int) => ⟨[], (h.upd l0 (.cells [.val (.int .i64 xX.1), .val (.int .i64 xX.2)])).on []⟩) (fun xX : (Int × Int) => syntax_checker_right.k2 xX.1 xX.2) (fun xX s' hr ht => ?_) ?_
          · obtain ⟨sets, met⟩ := xX
            dsimp only [syntax_checker_right.k2] at hr ht
            refine (w_nT ht ?_)
            refine w_seq ?_
            refine w_region rfl (by simp (disch := (apply Apart.mk; decide)) only [go_sem, Nat.reduceAdd, Nat.reduceLT, Nat.reduceMul, Nat.reduceLeDiff, Int.reduceToNat, Int.reduceLT, Int.reduceLE, ha0, on_atB hl0, lt_add hl0, lt_at hl0, on_updB hl0, on_atU hl0, on_updU hl0, upd_same ha0, cF1, cF10]; rfl) ?_
            refine w_n ?_
            refine w_ret ?_
            obtain rfl := hD _ hr
            exact (w_endR (To.cut (os' := []) (sl := [(8, .cv (.val (.bool true)))]) (h := (h.upd l0 (.cells [.val (.int .i64 sets), .val (.int .i64 met)]))) (WF.upd hwf hl0 (by simp (disch := (apply Apart.mk; decide)) only [go_sem, Nat.reduceAdd, Nat.reduceLT, Nat.reduceMul, Nat.reduceLeDiff, Int.reduceToNat, Int.reduceLT, Int.reduceLE, ha0, on_atB hl0, lt_add hl0, lt_at hl0, on_updB hl0, on_atU hl0, on_updU hl0, upd_same ha0])) (Nat.le_refl _) (by first | rfl | (simp (disch := (apply Apart.mk; decide)) only [go_sem, Nat.reduceAdd, Nat.reduceLT, Nat.reduceMul, Nat.reduceLeDiff, Int.reduceToNat, Int.reduceLT, Int.reduceLE, ha0, on_atB hl0, lt_add hl0, lt_at hl0, on_updB hl0, on_atU hl0, on_updU hl0, upd_same ha0, cF1, cF10]; rfl)) (by simp (disch := (apply Apart.mk; decide)) only [go_sem, Nat.reduceAdd, Nat.reduceLT, Nat.reduceMul, Nat.reduceLeDiff, Int.reduceToNat, Int.reduceLT, Int.reduceLE, ha0, on_atB hl0, lt_add hl0, lt_at hl0, on_updB hl0, on_atU hl0, on_updU hl0, upd_same ha0, cF1, cF10])) (by simp (disch := (apply Apart.mk; decide)) only [go_sem, Nat.reduceAdd, Nat.reduceLT, Nat.reduceMul, Nat.reduceLeDiff, Int.reduceToNat, Int.reduceLT, Int.reduceLE, ha0, on_atB hl0, lt_add hl0, lt_at hl0, on_updB hl0, on_atU hl0, on_updU hl0, upd_same ha0, Tryz.results18, results_data CT_gives18, resCell, resVal.eq_2, loadOp_sv, cF1, cF10]) ⟨rfl, on_nil (h := (h.upd l0 (.cells [.val (.int .i64 sets), .val (.int .i64 met)]))) (WF.upd hwf hl0 (by simp (disch := (apply Apart.mk; decide)) only [go_sem, Nat.reduceAdd, Nat.reduceLT, Nat.reduceMul, Nat.reduceLeDiff, Int.reduceToNat, Int.reduceLT, Int.reduceLE, ha0, on_atB hl0, lt_add hl0, lt_at hl0, on_updB hl0, on_atU hl0, on_updU hl0, upd_same ha0]))⟩)
          · refine w_block ?_
            refine w_Loop (fun xX : (Int × Int × Int) => ⟨[(0, .cv (.val (.ptr (some (l0, 0))))), (2, .cv (.val (.int .i64 depth))), (3, .cv (.val (.int .i64 signs1))), (5, .cv (.val (.ptr (some (h.n + 0, 0))))), (78, .cv (.val (.sl (List.map eNode n.Kids)))), (79, .cv (.val (.int .i64 (n.Kids.length : Int)))), (80, .cv (.val (.int .i64 xX.1)))], (h.upd l0 (.cells [.val (.int .i64 xX.2.1), .val (.int .i64 xX.2.2)])).on [some (.cells [.val (.int .i64 n.Kind), .val (.int .i64 n.Set), .val (.sl (List.map eNode n.Kids))])]⟩) hr (To.cut (h := (h.upd l0 (.cells [.val (.int .i64 c.sets), .val (.int .i64 c.met)]))) (WF.upd hwf hl0 (by simp (disch := (apply Apart.mk; decide)) only [go_sem, Nat.reduceAdd, Nat.reduceLT, Nat.reduceMul, Nat.reduceLeDiff, Int.reduceToNat, Int.reduceLT, Int.reduceLE, ha0, on_atB hl0, lt_add hl0, lt_at hl0, on_updB hl0, on_atU hl0, on_updU hl0, upd_same ha0])) (Nat.le_refl _) (by first | rfl | (simp (disch := (apply Apart.mk; decide)) only [go_sem, Nat.reduceAdd, Nat.reduceLT, Nat.reduceMul, Nat.reduceLeDiff, Int.reduceToNat, Int.reduceLT, Int.reduceLE, ha0, on_atB hl0, lt_add hl0, lt_at hl0, on_updB hl0, on_atU hl0, on_updU hl0, upd_same ha0, cF1, cF10]; rfl)) (by simp (disch := (apply Apart.mk; decide)) only [go_sem, Nat.reduceAdd, Nat.reduceLT, Nat.reduceMul, Nat.reduceLeDiff, Int.reduceToNat, Int.reduceLT, Int.reduceLE, ha0, on_atB hl0, lt_add hl0, lt_at hl0, on_updB hl0, on_atU hl0, on_updU hl0, upd_same ha0, cF1, cF10])) (fun W1 xX hr => ?_)
            obtain ⟨v1, sets1, met1⟩ := xX
            dsimp only [syntax_checker_right.b1] at hr
            refine w_seq ?_
            refine w_region rfl (by simp (disch := (apply Apart.mk; decide)) only [go_sem, Nat.reduceAdd, Nat.reduceLT, Nat.reduceMul, Nat.reduceLeDiff, Int.reduceToNat, Int.reduceLT, Int.reduceLE, ha0, on_atB hl0, lt_add hl0, lt_at hl0, on_updB hl0, on_atU hl0, on_updU hl0, upd_same ha0, cF1, cF10]; rfl) ?_
            refine w_n ?_
            refine w_seq ?_
            refine w_condH (by simp (disch := (apply Apart.mk; decide)) only [go_sem, Nat.reduceAdd, Nat.reduceLT, Nat.reduceMul, Nat.reduceLeDiff, Int.reduceToNat, Int.reduceLT, Int.reduceLE, ha0, on_atB hl0, lt_add hl0, lt_at hl0, on_updB hl0, on_atU hl0, on_updU hl0, upd_same ha0, cF1, cF10]) hr (fun cF11 hr => ?_) (fun cF11 hr => ?_)
            · refine w_skip ?_
              refine w_n ?_
              refine w_seq ?_
              refine w_block ?_
              refine w_seq ?_
              obtain ⟨x, nF12, eF13, gF14, hr⟩ := hr.idx
              refine w_region rfl (by simp (disch := (apply Apart.mk; decide)) only [go_sem, Nat.reduceAdd, Nat.reduceLT, Nat.reduceMul, Nat.reduceLeDiff, Int.reduceToNat, Int.reduceLT, Int.reduceLE, ha0, on_atB hl0, lt_add hl0, lt_at hl0, on_updB hl0, on_atU hl0, on_updU hl0, upd_same ha0, nF12, eF13, gF14, cF1, cF10, cF11]; rfl) ?_
              refine w_n ?_
              refine w_seq ?_
              refine w_region rfl (by simp (disch := (apply Apart.mk; decide)) only [go_sem, Nat.reduceAdd, Nat.reduceLT, Nat.reduceMul, Nat.reduceLeDiff, Int.reduceToNat, Int.reduceLT, Int.reduceLE, ha0, on_atB hl0, lt_add hl0, lt_at hl0, on_updB hl0, on_atU hl0, on_updU hl0, upd_same ha0, cF1, cF10, cF11]; rfl) ?_
              refine w_n ?_
              refine w_seq ?_
              refine w_seq ?_
              refine A_ops ?_
              refine w_upto 2 rfl (by simp (disch := (apply Apart.mk; decide)) only [go_sem, Nat.reduceAdd, Nat.reduceLT, Nat.reduceMul, Nat.reduceLeDiff, Int.reduceToNat, Int.reduceLT, Int.reduceLE, ha0, on_atB hl0, lt_add hl0, lt_at hl0, on_updB hl0, on_atU hl0, on_updU hl0, upd_same ha0]; rfl) ?_
              obtain ⟨r2, eF15, hr⟩ := hr.bind
              refine w_call' (out := ?o_eF15) (hp := ?p_eF15) rfl (by simp (disch := (apply Apart.mk; decide)) only [go_sem, Nat.reduceAdd, Nat.reduceLT, Nat.reduceMul, Nat.reduceLeDiff, Int.reduceToNat, Int.reduceLT, Int.reduceLE, ha0, on_atB hl0, lt_add hl0, lt_at hl0, on_updB hl0, on_atU hl0, on_updU hl0, upd_same ha0, Option.getD_some]; rfl) (by simp (disch := (apply Apart.mk; decide)) only [go_sem, Nat.reduceAdd, Nat.reduceLT, Nat.reduceMul, Nat.reduceLeDiff, Int.reduceToNat, Int.reduceLT, Int.reduceLE, ha0, on_atB hl0, lt_add hl0, lt_at hl0, on_updB hl0, on_atU hl0, on_updU hl0, upd_same ha0, Option.getD_some]; rfl) (by simp (disch := (apply Apart.mk; decide)) only [go_sem, Nat.reduceAdd, Nat.reduceLT, Nat.reduceMul, Nat.reduceLeDiff, Int.reduceToNat, Int.reduceLT, Int.reduceLE, ha0, on_atB hl0, lt_add hl0, lt_at hl0, on_updB hl0, on_atU hl0, on_updU hl0, upd_same ha0, Option.getD_some]; rfl) ?c_eF15 ?d_eF15 ?_
              case c_eF15 => exact syntax_open_runs n x eF15
              case d_eF15 => rfl
              refine w_ops_nil ?_
              refine w_n ?_
              refine w_K (D := (Aft W1 D)) (fun xX : Int => ⟨[(0, .cv (.val (.ptr (some (l0, 0))))), (2, .cv (.val (.int .i64 depth))), (3, .cv (.val (.int .i64 signs1))), (5, .cv (.val (.ptr (some (h.n + 0, 0))))), (11, .cv (.val (.ptr (some (h.n + 1, 0))))), (12, .cv (.val (.int .i64 xX))), (78, .cv (.val (.sl (List.map eNode n.Kids)))), (79, .cv (.val (.int .i64 (n.Kids.length : Int)))), (80, .cv (.val (.int .i64 v1)))], (h.upd l0 (.cells [.val (.int .i64 sets1), .val (.int .i64 met1)])).on [some (.cells [.val (.int .i64 n.Kind), .val (.int .i64 n.Set), .val (.sl (List.map eNode n.Kids))]), some (.cells [.val (.int .i64 x.Kind), .val (.int .i64 x.Set), .val (.sl (List.map eNode x.Kids))])]⟩) (fun xX : Int => syntax_checker_right.k3 (syntax_checker_right.r fu) signs1 v1 sets1 met1 x xX) (fun xX s' hr ht => ?_) ?_
              · obtain ⟨more, rfl⟩ : ∃ z, z = xX := ⟨xX, rfl⟩
                dsimp only [syntax_checker_right.k3] at hr ht
                refine (w_nT ht ?_)
                obtain ⟨⟨v2, sets2, met2⟩, vF18, hr⟩ := hr.bind
                dsimp only at hr
                refine w_joinR (sj := ⟨[(0, .cv (.val (.ptr (some (l0, 0))))), (2, .cv (.val (.int .i64 depth))), (3, .cv (.val (.int .i64 signs1))), (5, .cv (.val (.ptr (some (h.n + 0, 0))))), (78, .cv (.val (.sl (List.map eNode n.Kids)))), (79, .cv (.val (.int .i64 (n.Kids.length : Int)))), (80, .cv (.val (.int .i64 v1))), (99, .cv (.val (.bool v2)))], (h.upd l0 (.cells [.val (.int .i64 sets2), .val (.int .i64 met2)])).on [some (.cells [.val (.int .i64 n.Kind), .val (.int .i64 n.Set), .val (.sl (List.map eNode n.Kids))])]⟩) (A_ops ?_) ?_
                · have hr := Holds.intro (D := fun z => z = (v2, sets2, met2)) vF18 rfl
                  refine w_upto 3 rfl (by simp (disch := (apply Apart.mk; decide)) only [go_sem, Nat.reduceAdd, Nat.reduceLT, Nat.reduceMul, Nat.reduceLeDiff, Int.reduceToNat, Int.reduceLT, Int.reduceLE, ha0, on_atB hl0, lt_add hl0, lt_at hl0, on_updB hl0, on_atU hl0, on_updU hl0, upd_same ha0]; rfl) ?_
                  rcases hr.ite with ⟨cF16, hr⟩ | ⟨cF16, hr⟩
                  · refine w_upto 4 rfl (by simp (disch := (apply Apart.mk; decide)) only [go_sem, Nat.reduceAdd, Nat.reduceLT, Nat.reduceMul, Nat.reduceLeDiff, Int.reduceToNat, Int.reduceLT, Int.reduceLE, ha0, on_atB hl0, lt_add hl0, lt_at hl0, on_updB hl0, on_atU hl0, on_updU hl0, upd_same ha0, cF16]; rfl) ?_
                    refine w_off (by simp (disch := (apply Apart.mk; decide)) only [go_sem, Nat.reduceAdd, Nat.reduceLT, Nat.reduceMul, Nat.reduceLeDiff, Int.reduceToNat, Int.reduceLT, Int.reduceLE, ha0, on_atB hl0, lt_add hl0, lt_at hl0, on_updB hl0, on_atU hl0, on_updU hl0, upd_same ha0, cF16]) ?_
                    refine w_ops_end (by simp (disch := (apply Apart.mk; decide)) only [go_sem, Nat.reduceAdd, Nat.reduceLT, Nat.reduceMul, Nat.reduceLeDiff, Int.reduceToNat, Int.reduceLT, Int.reduceLE, ha0, on_atB hl0, lt_add hl0, lt_at hl0, on_updB hl0, on_atU hl0, on_updU hl0, upd_same ha0, cF16]; rfl) ?_
                    cases (show (_, _, _) = (v2, sets2, met2) from hr)
                    exact w_k (To.cut (h := (h.upd l0 (.cells [.val (.int .i64 sets1), .val (.int .i64 met1)]))) (WF.upd hwf hl0 (by simp (disch := (apply Apart.mk; decide)) only [go_sem, Nat.reduceAdd, Nat.reduceLT, Nat.reduceMul, Nat.reduceLeDiff, Int.reduceToNat, Int.reduceLT, Int.reduceLE, ha0, on_atB hl0, lt_add hl0, lt_at hl0, on_updB hl0, on_atU hl0, on_updU hl0, upd_same ha0])) (Nat.le_refl _) (by first | rfl | (simp (disch := (apply Apart.mk; decide)) only [go_sem, Nat.reduceAdd, Nat.reduceLT, Nat.reduceMul, Nat.reduceLeDiff, Int.reduceToNat, Int.reduceLT, Int.reduceLE, ha0, on_atB hl0, lt_add hl0, lt_at hl0, on_updB hl0, on_atU hl0, on_updU hl0, upd_same ha0, cF1, cF10, cF11, cF16]; rfl)) (by simp (disch := (apply Apart.mk; decide)) only [go_sem, Nat.reduceAdd, Nat.reduceLT, Nat.reduceMul, Nat.reduceLeDiff, Int.reduceToNat, Int.reduceLT, Int.reduceLE, ha0, on_atB hl0, lt_add hl0, lt_at hl0, on_updB hl0, on_atU hl0, on_updU hl0, upd_same ha0, cF1, cF10, cF11, cF16]))
                  · refine w_upto 4 rfl (by simp (disch := (apply Apart.mk; decide)) only [go_sem, Nat.reduceAdd, Nat.reduceLT, Nat.reduceMul, Nat.reduceLeDiff, Int.reduceToNat, Int.reduceLT, Int.reduceLE, ha0, on_atB hl0, lt_add hl0, lt_at hl0, on_updB hl0, on_atU hl0, on_updU hl0, upd_same ha0, cF16]; rfl) ?_
                    obtain ⟨r3, eF17, hr⟩ := hr.bind
                    refine w_call' (out := ?o_eF17) (hp := ?p_eF17) (by simp (disch := (apply Apart.mk; decide)) only [go_sem, Nat.reduceAdd, Nat.reduceLT, Nat.reduceMul, Nat.reduceLeDiff, Int.reduceToNat, Int.reduceLT, Int.reduceLE, ha0, on_atB hl0, lt_add hl0, lt_at hl0, on_updB hl0, on_atU hl0, on_updU hl0, upd_same ha0, Option.getD_some, cF16]) (by simp (disch := (apply Apart.mk; decide)) only [go_sem, Nat.reduceAdd, Nat.reduceLT, Nat.reduceMul, Nat.reduceLeDiff, Int.reduceToNat, Int.reduceLT, Int.reduceLE, ha0, on_atB hl0, lt_add hl0, lt_at hl0, on_updB hl0, on_atU hl0, on_updU hl0, upd_same ha0, Option.getD_some, cF16]; rfl) (by simp (disch := (apply Apart.mk; decide)) only [go_sem, Nat.reduceAdd, Nat.reduceLT, Nat.reduceMul, Nat.reduceLeDiff, Int.reduceToNat, Int.reduceLT, Int.reduceLE, ha0, on_atB hl0, lt_add hl0, lt_at hl0, on_updB hl0, on_atU hl0, on_updU hl0, upd_same ha0, Option.getD_some, cF16]; rfl) (by simp (disch := (apply Apart.mk; decide)) only [go_sem, Nat.reduceAdd, Nat.reduceLT, Nat.reduceMul, Nat.reduceLeDiff, Int.reduceToNat, Int.reduceLT, Int.reduceLE, ha0, on_atB hl0, lt_add hl0, lt_at hl0, on_updB hl0, on_atU hl0, on_updU hl0, upd_same ha0, Option.getD_some, cF16]; rfl) ?c_eF17 ?d_eF17 ?_
                    case c_eF17 => (refine ih (Tsyntax_checker.mk sets1 met1) x more signs1 (l0) ?_ eF17; (simp (disch := (apply Apart.mk; decide)) only [go_sem, Nat.reduceAdd, Nat.reduceLT, Nat.reduceMul, Nat.reduceLeDiff, Int.reduceToNat, Int.reduceLT, Int.reduceLE, ha0, on_atB hl0, lt_add hl0, lt_at hl0, on_updB hl0, on_atU hl0, on_updU hl0, upd_same ha0]))
                    case d_eF17 => rfl
                    refine w_ops_end (by simp (disch := (apply Apart.mk; decide)) only [go_sem, Nat.reduceAdd, Nat.reduceLT, Nat.reduceMul, Nat.reduceLeDiff, Int.reduceToNat, Int.reduceLT, Int.reduceLE, ha0, on_atB hl0, lt_add hl0, lt_at hl0, on_updB hl0, on_atU hl0, on_updU hl0, upd_same ha0, cF16]; rfl) ?_
                    cases (show (_, _, _) = (v2, sets2, met2) from hr)
                    exact w_k (To.cut (h := (h.upd l0 (.cells [.val (.int .i64 r3.2.sets), .val (.int .i64 r3.2.met)]))) (WF.upd hwf hl0 (by simp (disch := (apply Apart.mk; decide)) only [go_sem, Nat.reduceAdd, Nat.reduceLT, Nat.reduceMul, Nat.reduceLeDiff, Int.reduceToNat, Int.reduceLT, Int.reduceLE, ha0, on_atB hl0, lt_add hl0, lt_at hl0, on_updB hl0, on_atU hl0, on_updU hl0, upd_same ha0])) (Nat.le_refl _) (by first | rfl | (simp (disch := (apply Apart.mk; decide)) only [go_sem, Nat.reduceAdd, Nat.reduceLT, Nat.reduceMul, Nat.reduceLeDiff, Int.reduceToNat, Int.reduceLT, Int.reduceLE, ha0, on_atB hl0, lt_add hl0, lt_at hl0, on_updB hl0, on_atU hl0, on_updU hl0, upd_same ha0, cF1, cF10, cF11, cF16]; rfl)) (by simp (disch := (apply Apart.mk; decide)) only [go_sem, Nat.reduceAdd, Nat.reduceLT, Nat.reduceMul, Nat.reduceLeDiff, Int.reduceToNat, Int.reduceLT, Int.reduceLE, ha0, on_atB hl0, lt_add hl0, lt_at hl0, on_updB hl0, on_atU hl0, on_updU hl0, upd_same ha0, cF1, cF10, cF11, cF16]))
                refine w_condH (by simp (disch := (apply Apart.mk; decide)) only [go_sem, Nat.reduceAdd, Nat.reduceLT, Nat.reduceMul, Nat.reduceLeDiff, Int.reduceToNat, Int.reduceLT, Int.reduceLE, ha0, on_atB hl0, lt_add hl0, lt_at hl0, on_updB hl0, on_atU hl0, on_updU hl0, upd_same ha0, cF1, cF10, cF11]) hr (fun cF19 hr => ?_) (fun cF19 hr => ?_)
                · refine w_seq ?_
                  refine w_region rfl (by simp (disch := (apply Apart.mk; decide)) only [go_sem, Nat.reduceAdd, Nat.reduceLT, Nat.reduceMul, Nat.reduceLeDiff, Int.reduceToNat, Int.reduceLT, Int.reduceLE, ha0, on_atB hl0, lt_add hl0, lt_at hl0, on_updB hl0, on_atU hl0, on_updU hl0, upd_same ha0, cF1, cF10, cF11, cF19]; rfl) ?_
                  refine w_n ?_
                  refine w_ret ?_
                  obtain rfl := hD _ hr
                  exact (w_br (w_tr (w_tr (w_br (w_tr (w_tr (w_endR (To.cut (os' := []) (sl := [(8, .cv (.val (.bool false)))]) (h := (h.upd l0 (.cells [.val (.int .i64 sets2), .val (.int .i64 met2)]))) (WF.upd hwf hl0 (by simp (disch := (apply Apart.mk; decide)) only [go_sem, Nat.reduceAdd, Nat.reduceLT, Nat.reduceMul, Nat.reduceLeDiff, Int.reduceToNat, Int.reduceLT, Int.reduceLE, ha0, on_atB hl0, lt_add hl0, lt_at hl0, on_updB hl0, on_atU hl0, on_updU hl0, upd_same ha0])) (Nat.le_refl _) (by first | rfl | (simp (disch := (apply Apart.mk; decide)) only [go_sem, Nat.reduceAdd, Nat.reduceLT, Nat.reduceMul, Nat.reduceLeDiff, Int.reduceToNat, Int.reduceLT, Int.reduceLE, ha0, on_atB hl0, lt_add hl0, lt_at hl0, on_updB hl0, on_atU hl0, on_updU hl0, upd_same ha0, cF1, cF10, cF11, cF19]; rfl)) (by simp (disch := (apply Apart.mk; decide)) only [go_sem, Nat.reduceAdd, Nat.reduceLT, Nat.reduceMul, Nat.reduceLeDiff, Int.reduceToNat, Int.reduceLT, Int.reduceLE, ha0, on_atB hl0, lt_add hl0, lt_at hl0, on_updB hl0, on_atU hl0, on_updU hl0, upd_same ha0, cF1, cF10, cF11, cF19])) (by simp (disch := (apply Apart.mk; decide)) only [go_sem, Nat.reduceAdd, Nat.reduceLT, Nat.reduceMul, Nat.reduceLeDiff, Int.reduceToNat, Int.reduceLT, Int.reduceLE, ha0, on_atB hl0, lt_add hl0, lt_at hl0, on_updB hl0, on_atU hl0, on_updU hl0, upd_same ha0, Tryz.results18, results_data CT_gives18, resCell, resVal.eq_2, loadOp_sv, cF1, cF10, cF11, cF19]) ⟨rfl, on_nil (h := (h.upd l0 (.cells [.val (.int .i64 sets2), .val (.int .i64 met2)]))) (WF.upd hwf hl0 (by simp (disch := (apply Apart.mk; decide)) only [go_sem, Nat.reduceAdd, Nat.reduceLT, Nat.reduceMul, Nat.reduceLeDiff, Int.reduceToNat, Int.reduceLT, Int.reduceLE, ha0, on_atB hl0, lt_add hl0, lt_at hl0, on_updB hl0, on_atU hl0, on_updU hl0, upd_same ha0]))⟩)))))))
                · refine w_skip ?_
                  refine (w_bn (w_n ?_))
                  refine w_region rfl (by simp (disch := (apply Apart.mk; decide)) only [go_sem, Nat.reduceAdd, Nat.reduceLT, Nat.reduceMul, Nat.reduceLeDiff, Int.reduceToNat, Int.reduceLT, Int.reduceLE, ha0, on_atB hl0, lt_add hl0, lt_at hl0, on_updB hl0, on_atU hl0, on_updU hl0, upd_same ha0, cF1, cF10, cF11, cF19]; rfl) ?_
                  exact (w_k ⟨((IntKind.i64.wrap (v1 + (1 : Int))), sets2, met2), hr, (To.cut (h := (h.upd l0 (.cells [.val (.int .i64 sets2), .val (.int .i64 met2)]))) (WF.upd hwf hl0 (by simp (disch := (apply Apart.mk; decide)) only [go_sem, Nat.reduceAdd, Nat.reduceLT, Nat.reduceMul, Nat.reduceLeDiff, Int.reduceToNat, Int.reduceLT, Int.reduceLE, ha0, on_atB hl0, lt_add hl0, lt_at hl0, on_updB hl0, on_atU hl0, on_updU hl0, upd_same ha0])) (Nat.le_refl _) (by first | rfl | (simp (disch := (apply Apart.mk; decide)) only [go_sem, Nat.reduceAdd, Nat.reduceLT, Nat.reduceMul, Nat.reduceLeDiff, Int.reduceToNat, Int.reduceLT, Int.reduceLE, ha0, on_atB hl0, lt_add hl0, lt_at hl0, on_updB hl0, on_atU hl0, on_updU hl0, upd_same ha0, cF1, cF10, cF11, cF19]; rfl)) (by simp (disch := (apply Apart.mk; decide)) only [go_sem, Nat.reduceAdd, Nat.reduceLT, Nat.reduceMul, Nat.reduceLeDiff, Int.reduceToNat, Int.reduceLT, Int.reduceLE, ha0, on_atB hl0, lt_add hl0, lt_at hl0, on_updB hl0, on_atU hl0, on_updU hl0, upd_same ha0, cF1, cF10, cF11, cF19]))⟩)
              · refine w_condH (by simp (disch := (apply Apart.mk; decide)) only [go_sem, Nat.reduceAdd, Nat.reduceLT, Nat.reduceMul, Nat.reduceLeDiff, Int.reduceToNat, Int.reduceLT, Int.reduceLE, ha0, on_atB hl0, lt_add hl0, lt_at hl0, on_updB hl0, on_atU hl0, on_updU hl0, upd_same ha0, cF1, cF10, cF11]) hr (fun cF20 hr => ?_) (fun cF20 hr => ?_)
                · refine w_region rfl (by simp (disch := (apply Apart.mk; decide)) only [go_sem, Nat.reduceAdd, Nat.reduceLT, Nat.reduceMul, Nat.reduceLeDiff, Int.reduceToNat, Int.reduceLT, Int.reduceLE, ha0, on_atB hl0, lt_add hl0, lt_at hl0, on_updB hl0, on_atU hl0, on_updU hl0, upd_same ha0, cF1, cF10, cF11, cF20]; rfl) ?_
                  exact (w_k ⟨(IntKind.i64.wrap (depth + (1 : Int))), hr, (To.cut (h := (h.upd l0 (.cells [.val (.int .i64 sets1), .val (.int .i64 met1)]))) (WF.upd hwf hl0 (by simp (disch := (apply Apart.mk; decide)) only [go_sem, Nat.reduceAdd, Nat.reduceLT, Nat.reduceMul, Nat.reduceLeDiff, Int.reduceToNat, Int.reduceLT, Int.reduceLE, ha0, on_atB hl0, lt_add hl0, lt_at hl0, on_updB hl0, on_atU hl0, on_updU hl0, upd_same ha0])) (Nat.le_refl _) (by first | rfl | (simp (disch := (apply Apart.mk; decide)) only [go_sem, Nat.reduceAdd, Nat.reduceLT, Nat.reduceMul, Nat.reduceLeDiff, Int.reduceToNat, Int.reduceLT, Int.reduceLE, ha0, on_atB hl0, lt_add hl0, lt_at hl0, on_updB hl0, on_atU hl0, on_updU hl0, upd_same ha0, cF1, cF10, cF11, cF20]; rfl)) (by simp (disch := (apply Apart.mk; decide)) only [go_sem, Nat.reduceAdd, Nat.reduceLT, Nat.reduceMul, Nat.reduceLeDiff, Int.reduceToNat, Int.reduceLT, Int.reduceLE, ha0, on_atB hl0, lt_add hl0, lt_at hl0, on_updB hl0, on_atU hl0, on_updU hl0, upd_same ha0, cF1, cF10, cF11, cF20]))⟩)
                · refine w_skip ?_
                  exact (w_k ⟨depth, hr, (To.cut (h := (h.upd l0 (.cells [.val (.int .i64 sets1), .val (.int .i64 met1)]))) (WF.upd hwf hl0 (by simp (disch := (apply Apart.mk; decide)) only [go_sem, Nat.reduceAdd, Nat.reduceLT, Nat.reduceMul, Nat.reduceLeDiff, Int.reduceToNat, Int.reduceLT, Int.reduceLE, ha0, on_atB hl0, lt_add hl0, lt_at hl0, on_updB hl0, on_atU hl0, on_updU hl0, upd_same ha0])) (Nat.le_refl _) (by first | rfl | (simp (disch := (apply Apart.mk; decide)) only [go_sem, Nat.reduceAdd, Nat.reduceLT, Nat.reduceMul, Nat.reduceLeDiff, Int.reduceToNat, Int.reduceLT, Int.reduceLE, ha0, on_atB hl0, lt_add hl0, lt_at hl0, on_updB hl0, on_atU hl0, on_updU hl0, upd_same ha0, cF1, cF10, cF11, cF20]; rfl)) (by simp (disch := (apply Apart.mk; decide)) only [go_sem, Nat.reduceAdd, Nat.reduceLT, Nat.reduceMul, Nat.reduceLeDiff, Int.reduceToNat, Int.reduceLT, Int.reduceLE, ha0, on_atB hl0, lt_add hl0, lt_at hl0, on_updB hl0, on_atU hl0, on_updU hl0, upd_same ha0, cF1, cF10, cF11, cF20]))⟩)
            · refine w_exit ?_
              exact (w_te (w_te (w_bx (w_k ⟨(sets1, met1), (hr).map, (To.cut (h := (h.upd l0 (.cells [.val (.int .i64 sets1), .val (.int .i64 met1)]))) (WF.upd hwf hl0 (by simp (disch := (apply Apart.mk; decide)) only [go_sem, Nat.reduceAdd, Nat.reduceLT, Nat.reduceMul, Nat.reduceLeDiff, Int.reduceToNat, Int.reduceLT, Int.reduceLE, ha0, on_atB hl0, lt_add hl0, lt_at hl0, on_updB hl0, on_atU hl0, on_updU hl0, upd_same ha0])) (Nat.le_refl _) (by first | rfl | (simp (disch := (apply Apart.mk; decide)) only [go_sem, Nat.reduceAdd, Nat.reduceLT, Nat.reduceMul, Nat.reduceLeDiff, Int.reduceToNat, Int.reduceLT, Int.reduceLE, ha0, on_atB hl0, lt_add hl0, lt_at hl0, on_updB hl0, on_atU hl0, on_updU hl0, upd_same ha0, cF1, cF10, cF11]; rfl)) (by simp (disch := (apply Apart.mk; decide)) only [go_sem, Nat.reduceAdd, Nat.reduceLT, Nat.reduceMul, Nat.reduceLeDiff, Int.reduceToNat, Int.reduceLT, Int.reduceLE, ha0, on_atB hl0, lt_add hl0, lt_at hl0, on_updB hl0, on_atU hl0, on_updU hl0, upd_same ha0, cF1, cF10, cF11]))⟩))))
      · refine w_condH (by simp (disch := (apply Apart.mk; decide)) only [go_sem, Nat.reduceAdd, Nat.reduceLT, Nat.reduceMul, Nat.reduceLeDiff, Int.reduceToNat, Int.reduceLT, Int.reduceLE, ha0, on_atB hl0, lt_add hl0, lt_at hl0, on_updB hl0, on_atU hl0, on_updU hl0, upd_same ha0, cF1]) hr (fun cF21 hr => ?_) (fun cF21 hr => ?_)
        · refine w_region rfl (by simp (disch := (apply Apart.mk; decide)) only [go_sem, Nat.reduceAdd, Nat.reduceLT, Nat.reduceMul, Nat.reduceLeDiff, Int.reduceToNat, Int.reduceLT, Int.reduceLE, ha0, on_atB hl0, lt_add hl0, lt_at hl0, on_updB hl0, on_atU hl0, on_updU hl0, upd_same ha0, cF1, cF21]; rfl) ?_
          exact (w_k ⟨(0 : Int), hr, (To.cut hwf (Nat.le_refl _) (by first | rfl | (simp (disch := (apply Apart.mk; decide)) only [go_sem, Nat.reduceAdd, Nat.reduceLT, Nat.reduceMul, Nat.reduceLeDiff, Int.reduceToNat, Int.reduceLT, Int.reduceLE, ha0, on_atB hl0, lt_add hl0, lt_at hl0, on_updB hl0, on_atU hl0, on_updU hl0, upd_same ha0, cF1, cF21]; rfl)) (by simp (disch := (apply Apart.mk; decide)) only [go_sem, Nat.reduceAdd, Nat.reduceLT, Nat.reduceMul, Nat.reduceLeDiff, Int.reduceToNat, Int.reduceLT, Int.reduceLE, ha0, on_atB hl0, lt_add hl0, lt_at hl0, on_updB hl0, on_atU hl0, on_updU hl0, upd_same ha0, cF1, cF21]))⟩)
        · refine w_skip ?_
          exact (w_k ⟨(IntKind.i64.wrap (signs + (1 : Int))), hr, (To.cut hwf (Nat.le_refl _) (by first | rfl | (simp (disch := (apply Apart.mk; decide)) only [go_sem, Nat.reduceAdd, Nat.reduceLT, Nat.reduceMul, Nat.reduceLeDiff, Int.reduceToNat, Int.reduceLT, Int.reduceLE, ha0, on_atB hl0, lt_add hl0, lt_at hl0, on_updB hl0, on_atU hl0, on_updU hl0, upd_same ha0, cF1, cF21]; rfl)) (by simp (disch := (apply Apart.mk; decide)) only [go_sem, Nat.reduceAdd, Nat.reduceLT, Nat.reduceMul, Nat.reduceLeDiff, Int.reduceToNat, Int.reduceLT, Int.reduceLE, ha0, on_atB hl0, lt_add hl0, lt_at hl0, on_updB hl0, on_atU hl0, on_updU hl0, upd_same ha0, cF1, cF21]))⟩)
theorem syntax_checker_right_runs (c : Tsyntax_checker) (n : TNode) (depth : Int) (signs : Int) (l0 : Nat) {h : Heap} (ha0 : h.at_ l0 = some (.cells [.val (.int .i64 c.sets), .val (.int .i64 c.met)])) {a : (Bool × Tsyntax_checker)} (e : syntax_checker_right c n depth signs = some a) :
    Runs CT 18 [.cv (.val (.ptr (some (l0, 0)))), .cv (.val (.agg [.int .i64 n.Kind, .int .i64 n.Set, .sl (List.map eNode n.Kids)])), .cv (.val (.int .i64 depth)), .cv (.val (.int .i64 signs))] h fun o h' => o = [.cv (.val (.bool a.1))] ∧ h' = (h.upd l0 (.cells [.val (.int .i64 a.2.sets), .val (.int .i64 a.2.met)])) := by
  obtain ⟨fuN, fuH⟩ := lim_some e
  exact syntax_checker_right_runs_r fuN c n depth signs l0 ha0 (fuH fuN (Nat.le_refl fuN))
end Go.Val

/- part KW9 -/
/- scansion/syntax.Right runs as it is read off. -/
namespace Go.Val
set_option linter.unusedVariables false
set_option linter.unusedSimpArgs false
set_option maxRecDepth 20000
open Go.Proofs
theorem syntax_Right_runs (p : TProgram) {h : Heap} {a : Bool} (e : syntax_Right p = some a) :
    Runs CT 9 [.cv (.val (.agg [.sl (List.map (eL eRange) p.Sets), .sl (List.map eRule p.Rules)]))] h fun o h' => o = [.cv (.val (.bool a))] ∧ h' = h := by
  refine Runs.start Tryz.f9 _ Tryz.func9 rfl (by rw [Tryz.ntmps9]; simp) (by rfl) (by rfl) (fun hwf hu => ?_)
  obtain ⟨D, hD, hr⟩ : ∃ D : Bool → Prop, (∀ z, D z → z = a) ∧ Holds (syntax_Right p) D := ⟨fun z => z = a, fun _ h => h, Holds.intro e rfl⟩
  dsimp only [syntax_Right] at hr
  change wpCode _ _ _ _ _ ⟨[(0, .cv (.val (.agg [.sl (List.map (eL eRange) p.Sets), .sl (List.map eRule p.Rules)])))], h.on []⟩
  refine w_seq ?_
  refine A_region ?_
  refine w_n ?_
  refine w_seq ?_
  refine w_joinR (sj := ⟨[(1, .cv (.val (.ptr (some (h.n + 0, 0))))), (18, .cv (.val (.bool ((decide ((p.Sets.length : Int) > (60 : Int))) || (decide ((p.Rules.length : Int) > (64 : Int)))))))], h.on [some (.cells [.val (.sl (List.map (eL eRange) p.Sets)), .val (.sl (List.map eRule p.Rules))])]⟩) (A_ops ?_) ?_
  · refine A_upto 5 ?_
    rcases Bool.eq_false_or_eq_true (decide ((p.Sets.length : Int) > (60 : Int))) with cF1 | cF1
    · refine A_ops_end ?_
      exact w_k (A_cut hwf)
    · refine A_ops_end ?_
      exact w_k (A_cut hwf)
  refine A_condH hr (fun cF2 hr => ?_) (fun cF2 hr => ?_)
  · refine w_seq ?_
    refine A_region ?_
    refine w_n ?_
    refine w_ret ?_
    obtain rfl := hD _ hr
    exact (w_tr (A_endR (A_cut (os' := []) (sl := [(2, .cv (.val (.bool false)))]) hwf) ⟨rfl, on_nil hwf⟩))
  · refine w_skip ?_
    refine w_n ?_
    refine w_seq ?_
    refine A_region ?_
    refine w_n ?_
    refine w_seq ?_
    refine w_seq ?_
    refine A_region ?_
    refine w_n ?_
    refine w_K (D := D) (fun xX : List (Str × Bool) => ⟨[(1, .cv (.val (.ptr (some (h.n + 0, 0))))), (3, .cv (.val (.map (some (h.n + 1)))))], h.on [some (.cells [.val (.sl (List.map (eL eRange) p.Sets)), .val (.sl (List.map eRule p.Rules))]), some (.map 9 (encM eS eB xX))]⟩) (fun xX : List (Str × Bool) => syntax_Right.k1 p xX) (fun xX s' hr ht => ?_) ?_
    · obtain ⟨m, rfl⟩ : ∃ z, z = xX := ⟨xX, rfl⟩
      dsimp only [syntax_Right.k1] at hr ht
      refine (w_nT ht ?_)
      refine w_seq ?_
      refine A_region ?_
      refine w_n ?_
      refine w_seq ?_
      refine w_seq ?_
      refine A_region ?_
      refine w_n ?_
      refine w_K (D := D) (fun xX : (Int × Int) => ⟨[(1, .cv (.val (.ptr (some (h.n + 0, 0))))), (3, .cv (.val (.map (some (h.n + 1))))), (6, .cv (.val (.ptr (some (h.n + 2, 0)))))], h.on [some (.cells [.val (.sl (List.map (eL eRange) p.Sets)), .val (.sl (List.map eRule p.Rules))]), some (.map 9 (encM eS eB m)), some (.cells [.val (.int .i64 xX.1), .val (.int .i64 xX.2)])]⟩) (fun xX : (Int × Int) => syntax_Right.k2 p m xX.1 xX.2) (fun xX s' hr ht => ?_) ?_
      · obtain ⟨sets, met⟩ := xX
        dsimp only [syntax_Right.k2] at hr ht
        refine (w_nT ht ?_)
        refine w_joinR (sj := ⟨[(2, .cv (.val (.bool (((m.length : Int) == (p.Sets.length : Int)) && (met == (p.Sets.length : Int))))))], h.on []⟩) (w_drawn [0, 1, 2, 3, 4, 5, 6, 7, 8, 9, 10, 11, 12, 13, 14, 15, 16] (by rfl) ?_) ?_
        · refine p_run (l := [0, 1, 2, 3, 4, 5, 6]) (pend' := [6, 5, 4, 3, 2, 1, 0]) (by simp (disch := (apply Apart.mk; decide)) only [go_sem, Nat.reduceAdd, Nat.reduceLT, Nat.reduceMul, Nat.reduceLeDiff, Int.reduceToNat, Int.reduceLT, Int.reduceLE]; rfl) rfl ?_
          rcases Bool.eq_false_or_eq_true ((m.length : Int) == (p.Sets.length : Int)) with cF3 | cF3
          · refine p_run (l := [7, 8, 9, 10, 11, 12, 13, 14, 15]) (pend' := [15, 14, 13, 12, 11, 10, 9, 8, 7, 6, 5, 4, 3, 2, 1, 0]) (by simp (disch := (apply Apart.mk; decide)) only [go_sem, Nat.reduceAdd, Nat.reduceLT, Nat.reduceMul, Nat.reduceLeDiff, Int.reduceToNat, Int.reduceLT, Int.reduceLE, cF3]; rfl) rfl ?_
            refine p_op (pend' := []) rfl (by simp (disch := (apply Apart.mk; decide)) only [go_sem, Nat.reduceAdd, Nat.reduceLT, Nat.reduceMul, Nat.reduceLeDiff, Int.reduceToNat, Int.reduceLT, Int.reduceLE, cF3]) (by simp (disch := (apply Apart.mk; decide)) only [go_sem, Nat.reduceAdd, Nat.reduceLT, Nat.reduceMul, Nat.reduceLeDiff, Int.reduceToNat, Int.reduceLT, Int.reduceLE, cF3]; rfl) (by rfl) ?_
            refine p_end (by simp (disch := (apply Apart.mk; decide)) only [go_sem, Nat.reduceAdd, Nat.reduceLT, Nat.reduceMul, Nat.reduceLeDiff, Int.reduceToNat, Int.reduceLT, Int.reduceLE, cF3]) ?_
            exact w_k (A_cut hwf)
          · refine p_run (l := [7, 8, 9, 10, 11, 12, 13, 14, 15]) (pend' := [15, 14, 13, 12, 11, 10, 9, 8, 7, 6, 5, 4, 3, 2, 1, 0]) (by simp (disch := (apply Apart.mk; decide)) only [go_sem, Nat.reduceAdd, Nat.reduceLT, Nat.reduceMul, Nat.reduceLeDiff, Int.reduceToNat, Int.reduceLT, Int.reduceLE, cF3]; rfl) rfl ?_
            refine p_op (pend' := []) rfl (by simp (disch := (apply Apart.mk; decide)) only [go_sem, Nat.reduceAdd, Nat.reduceLT, Nat.reduceMul, Nat.reduceLeDiff, Int.reduceToNat, Int.reduceLT, Int.reduceLE, cF3]) (by simp (disch := (apply Apart.mk; decide)) only [go_sem, Nat.reduceAdd, Nat.reduceLT, Nat.reduceMul, Nat.reduceLeDiff, Int.reduceToNat, Int.reduceLT, Int.reduceLE, cF3]; rfl) (by rfl) ?_
            refine p_end (by simp (disch := (apply Apart.mk; decide)) only [go_sem, Nat.reduceAdd, Nat.reduceLT, Nat.reduceMul, Nat.reduceLeDiff, Int.reduceToNat, Int.reduceLT, Int.reduceLE, cF3]) ?_
            exact w_k (A_cut hwf)
        refine w_ret ?_
        obtain rfl := hD _ hr
        exact (A_endR (A_cut (os' := []) (sl := [(2, .cv (.val (.bool (((m.length : Int) == (p.Sets.length : Int)) && (met == (p.Sets.length : Int))))))]) hwf) ⟨rfl, on_nil hwf⟩)
      · refine w_block ?_
        refine w_Loop (fun xX : (Int × Int × Int) => ⟨[(1, .cv (.val (.ptr (some (h.n + 0, 0))))), (3, .cv (.val (.map (some (h.n + 1))))), (6, .cv (.val (.ptr (some (h.n + 2, 0))))), (40, .cv (.val (.sl (List.map eRule p.Rules)))), (41, .cv (.val (.int .i64 (p.Rules.length : Int)))), (42, .cv (.val (.int .i64 xX.1)))], h.on [some (.cells [.val (.sl (List.map (eL eRange) p.Sets)), .val (.sl (List.map eRule p.Rules))]), some (.map 9 (encM eS eB m)), some (.cells [.val (.int .i64 xX.2.1), .val (.int .i64 xX.2.2)])]⟩) hr (A_cut hwf) (fun W1 xX hr => ?_)
        obtain ⟨v2, sets1, met1⟩ := xX
        dsimp only [syntax_Right.b1] at hr
        refine w_seq ?_
        refine A_region ?_
        refine w_n ?_
        refine w_seq ?_
        refine A_condH hr (fun cF4 hr => ?_) (fun cF4 hr => ?_)
        · refine w_skip ?_
          refine w_n ?_
          refine w_seq ?_
          refine w_block ?_
          refine w_seq ?_
          obtain ⟨x, nF5, eF6, gF7, hr⟩ := hr.idx
          refine A_region ?_
          refine w_n ?_
          obtain ⟨⟨v3, sets2, met2⟩, vF11, hr⟩ := hr.bind
          dsimp only at hr
          refine w_joinR (sj := ⟨[(1, .cv (.val (.ptr (some (h.n + 0, 0))))), (3, .cv (.val (.map (some (h.n + 1))))), (6, .cv (.val (.ptr (some (h.n + 2, 0))))), (40, .cv (.val (.sl (List.map eRule p.Rules)))), (41, .cv (.val (.int .i64 (p.Rules.length : Int)))), (42, .cv (.val (.int .i64 v2))), (57, .cv (.val (.bool v3)))], h.on [some (.cells [.val (.sl (List.map (eL eRange) p.Sets)), .val (.sl (List.map eRule p.Rules))]), some (.map 9 (encM eS eB m)), some (.cells [.val (.int .i64 sets2), .val (.int .i64 met2)])]⟩) (A_ops ?_) ?_
          · have hr := Holds.intro (D := fun z => z = (v3, sets2, met2)) vF11 rfl
            refine A_upto 3 ?_
            obtain ⟨r, eF8, hr⟩ := hr.bind
            refine A_call (out := ?o_eF8) (hp := ?p_eF8) ?c_eF8 ?d_eF8 ?_
            case c_eF8 => (refine syntax_checker_right_runs (Tsyntax_checker.mk sets1 met1) x.Left (0 : Int) (0 : Int) (h.n + 2) ?_ eF8; (simp (disch := (apply Apart.mk; decide)) only [go_sem, Nat.reduceAdd, Nat.reduceLT, Nat.reduceMul, Nat.reduceLeDiff, Int.reduceToNat, Int.reduceLT, Int.reduceLE]))
            case d_eF8 => rfl
            refine A_upto 2 ?_
            rcases hr.ite with ⟨cF9, hr⟩ | ⟨cF9, hr⟩
            · refine A_upto 3 ?_
              refine A_off ?_
              refine A_ops_end ?_
              cases (show (_, _, _) = (v3, sets2, met2) from hr)
              exact w_k (A_cut hwf)
            · refine A_upto 3 ?_
              obtain ⟨r1, eF10, hr⟩ := hr.bind
              refine w_call' (out := ?o_eF10) (hp := ?p_eF10) (by simp (disch := (apply Apart.mk; decide)) only [go_sem, Nat.reduceAdd, Nat.reduceLT, Nat.reduceMul, Nat.reduceLeDiff, Int.reduceToNat, Int.reduceLT, Int.reduceLE, Option.getD_some, cF9]) (by simp (disch := (apply Apart.mk; decide)) only [go_sem, Nat.reduceAdd, Nat.reduceLT, Nat.reduceMul, Nat.reduceLeDiff, Int.reduceToNat, Int.reduceLT, Int.reduceLE, Option.getD_some, cF9]; rfl) (by simp (disch := (apply Apart.mk; decide)) only [go_sem, Nat.reduceAdd, Nat.reduceLT, Nat.reduceMul, Nat.reduceLeDiff, Int.reduceToNat, Int.reduceLT, Int.reduceLE, Option.getD_some, cF9]; rfl) (by simp (disch := (apply Apart.mk; decide)) only [go_sem, Nat.reduceAdd, Nat.reduceLT, Nat.reduceMul, Nat.reduceLeDiff, Int.reduceToNat, Int.reduceLT, Int.reduceLE, Option.getD_some, cF9]; rfl) ?c_eF10 ?d_eF10 ?_
              case c_eF10 => (refine syntax_checker_right_runs r.2 x.Right (0 : Int) (0 : Int) (h.n + 2) ?_ eF10; (simp (disch := (apply Apart.mk; decide)) only [go_sem, Nat.reduceAdd, Nat.reduceLT, Nat.reduceMul, Nat.reduceLeDiff, Int.reduceToNat, Int.reduceLT, Int.reduceLE]))
              case d_eF10 => rfl
              refine A_ops_end ?_
              cases (show (_, _, _) = (v3, sets2, met2) from hr)
              exact w_k (A_cut hwf)
          refine A_condH hr (fun cF12 hr => ?_) (fun cF12 hr => ?_)
          · refine w_seq ?_
            refine A_region ?_
            refine w_n ?_
            refine w_ret ?_
            obtain rfl := hD _ hr
            exact (w_br (w_tr (w_tr (w_br (w_tr (w_tr (A_endR (A_cut (os' := []) (sl := [(2, .cv (.val (.bool false)))]) hwf) ⟨rfl, on_nil hwf⟩)))))))
          · refine w_skip ?_
            refine (w_bn (w_n ?_))
            refine A_region ?_
            exact (w_k ⟨((IntKind.i64.wrap (v2 + (1 : Int))), sets2, met2), hr, (A_cut hwf)⟩)
        · refine w_exit ?_
          exact (w_te (w_te (w_bx (w_k ⟨(sets1, met1), (hr).map, (A_cut hwf)⟩))))
    · refine w_block ?_
      refine w_Loop (fun xX : (Int × List (Str × Bool)) => ⟨[(1, .cv (.val (.ptr (some (h.n + 0, 0))))), (3, .cv (.val (.map (some (h.n + 1))))), (21, .cv (.val (.sl (List.map (eL eRange) p.Sets)))), (22, .cv (.val (.int .i64 (p.Sets.length : Int)))), (23, .cv (.val (.int .i64 xX.1)))], h.on [some (.cells [.val (.sl (List.map (eL eRange) p.Sets)), .val (.sl (List.map eRule p.Rules))]), some (.map 9 (encM eS eB xX.2))]⟩) hr (A_cut hwf) (fun W2 xX hr => ?_)
      obtain ⟨v4, m1⟩ := xX
      dsimp only [syntax_Right.b2] at hr
      refine w_seq ?_
      refine A_region ?_
      refine w_n ?_
      refine w_seq ?_
      refine A_condH hr (fun cF13 hr => ?_) (fun cF13 hr => ?_)
      · refine w_skip ?_
        refine w_n ?_
        refine w_seq ?_
        refine w_block ?_
        refine w_seq ?_
        obtain ⟨xs, nF14, eF15, gF16, hr⟩ := hr.idx
        refine A_region ?_
        refine w_n ?_
        refine w_seq ?_
        refine w_seq ?_
        refine A_ops ?_
        refine A_upto 1 ?_
        obtain ⟨r2, eF17, hr⟩ := hr.bind
        refine A_call (out := ?o_eF17) (hp := ?p_eF17) ?c_eF17 ?d_eF17 ?_
        case c_eF17 => exact syntax_set_runs xs eF17
        case d_eF17 => rfl
        refine A_ops_end ?_
        refine w_n ?_
        refine A_condH hr (fun cF18 hr => ?_) (fun cF18 hr => ?_)
        · refine w_seq ?_
          refine A_region ?_
          refine w_n ?_
          refine w_ret ?_
          obtain rfl := hD _ hr
          exact (w_tr (w_br (w_tr (w_tr (w_br (w_tr (w_tr (A_endR (A_cut (os' := []) (sl := [(2, .cv (.val (.bool false)))]) hwf) ⟨rfl, on_nil hwf⟩))))))))
        · refine w_skip ?_
          refine w_n ?_
          refine A_ops ?_
          refine A_upto 2 ?_
          obtain ⟨r3, eF19, hr⟩ := hr.bind
          refine A_call (out := ?o_eF19) (hp := ?p_eF19) ?c_eF19 ?d_eF19 ?_
          case c_eF19 => exact lex_Set_runs xs eF19
          case d_eF19 => rfl
          refine A_ops_end ?_
          refine (w_bn (w_n ?_))
          refine A_region ?_
          exact (w_k ⟨((IntKind.i64.wrap (v4 + (1 : Int))), (aput r3 true m1)), hr, (A_cut hwf)⟩)
      · refine w_exit ?_
        exact (w_te (w_te (w_bx (w_k ⟨m1, (hr).map, (A_cut hwf)⟩))))
end Go.Val

/- part KW31 -/
/- strings_Join is told by hand. -/
namespace Go.Val
theorem strings_Join_runs (l : List Str) (s : Str) {h : Heap} {u : Str} (e : strings_Join l s = some u) :
    Runs CT 31 [.cv (.val (.sl (List.map eS l))), .cv (.val (.str (bs s)))] h fun o h' => o = [.cv (.val (.str (bs u)))] ∧ h' = h :=
  Runs.hand (C := CT) (show handL 31 _ h _ h from ⟨rfl, .inr (.inl ⟨rfl, l, s, u, rfl, e, rfl⟩)⟩) ⟨rfl, rfl⟩
end Go.Val

/- part KW14 -/
/- scansion/syntax.printed runs as it is read off. -/
namespace Go.Val
set_option linter.unusedVariables false
set_option linter.unusedSimpArgs false
set_option maxRecDepth 20000
open Go.Proofs
theorem syntax_printed_runs_r : ∀ (fu : Nat) (n : TNode) (sets : List (List TRange)) {h : Heap} {a : Str} (e : syntax_printed.r fu n sets = some a),
    Runs CT 14 [.cv (.val (.agg [.int .i64 n.Kind, .int .i64 n.Set, .sl (List.map eNode n.Kids)])), .cv (.val (.sl (List.map (eL eRange) sets)))] h fun o h' => o = [.cv (.val (.str (bs a)))] ∧ h' = h := by
  intro fu
  induction fu with
  | zero => intros; rename_i e; simp [syntax_printed.r] at e
  | succ fu ih =>
    intro n sets h a e
    refine Runs.start Tryz.f14 _ Tryz.func14 rfl (by rw [Tryz.ntmps14]; simp) (by rfl) (by rfl) (fun hwf hu => ?_)
    obtain ⟨D, hD, hr⟩ : ∃ D : Str → Prop, (∀ z, D z → z = a) ∧ Holds (syntax_printed.r (fu + 1) n sets) D := ⟨fun z => z = a, fun _ h => h, Holds.intro e rfl⟩
    dsimp only [syntax_printed.r] at hr
    change wpCode _ _ _ _ _ ⟨[(0, .cv (.val (.agg [.int .i64 n.Kind, .int .i64 n.Set, .sl (List.map eNode n.Kids)]))), (1, .cv (.val (.sl (List.map (eL eRange) sets))))], h.on []⟩
    refine w_seq ?_
    refine A_region ?_
    refine w_n ?_
    refine w_seq ?_
    refine w_seq ?_
    refine A_region ?_
    refine w_n ?_
    refine A_condH hr (fun cF1 hr => ?_) (fun cF1 hr => ?_)
    · refine w_seq ?_
      refine A_ops ?_
      obtain ⟨xs, nF2, eF3, gF4, hr⟩ := hr.idx
      refine A_upto 5 ?_
      obtain ⟨r, eF5, hr⟩ := hr.bind
      refine A_call (out := ?o_eF5) (hp := ?p_eF5) ?c_eF5 ?d_eF5 ?_
      case c_eF5 => exact lex_Set_runs xs eF5
      case d_eF5 => rfl
      refine A_ops_end ?_
      refine w_n ?_
      refine w_ret ?_
      obtain rfl := hD _ hr
      exact (w_tr (A_endR (A_cut (os' := []) (sl := [(4, .cv (.val (.str (bs r))))]) hwf) ⟨rfl, on_nil hwf⟩))
    · refine w_skip ?_
      refine w_n ?_
      refine w_seq ?_
      refine A_region ?_
      refine w_n ?_
      refine w_seq ?_
      refine w_seq ?_
      refine A_region ?_
      refine w_n ?_
      refine w_K (D := D) (fun xX : List Str => ⟨[(2, .cv (.val (.ptr (some (h.n + 0, 0))))), (5, .cv (.row 9 (List.map eS xX)))], h.on [some (.cells [.val (.int .i64 n.Kind), .val (.int .i64 n.Set), .val (.sl (List.map eNode n.Kids))])]⟩) (fun xX : List Str => syntax_printed.k1 n xX) (fun xX s' hr ht => ?_) ?_
      · obtain ⟨l, rfl⟩ : ∃ z, z = xX := ⟨xX, rfl⟩
        dsimp only [syntax_printed.k1] at hr ht
        refine (w_nT ht ?_)
        refine w_seq ?_
        refine w_seq ?_
        refine A_region ?_
        refine w_n ?_
        refine w_block ?_
        refine w_seq ?_
        refine A_region ?_
        refine w_n ?_
        refine A_condH hr (fun cF6 hr => ?_) (fun cF6 hr => ?_)
        · refine w_seq ?_
          refine A_ops ?_
          refine A_upto 1 ?_
          obtain ⟨r1, eF7, hr⟩ := hr.bind
          refine A_call (out := ?o_eF7) (hp := ?p_eF7) ?c_eF7 ?d_eF7 ?_
          case c_eF7 => exact strings_Join_runs l ([124] : Str) eF7
          case d_eF7 => rfl
          refine A_ops_end ?_
          refine w_n ?_
          refine w_ret ?_
          obtain rfl := hD _ hr
          exact (w_br (w_tr (A_endR (A_cut (os' := []) (sl := [(4, .cv (.val (.str (bs r1))))]) hwf) ⟨rfl, on_nil hwf⟩)))
        · refine w_seq ?_
          refine A_region ?_
          refine w_n ?_
          refine A_condH hr (fun cF8 hr => ?_) (fun cF8 hr => ?_)
          · refine w_seq ?_
            obtain ⟨s, eF9, gF10, hr⟩ := hr.idxK
            obtain ⟨nF11, hr⟩ := hr.roomS
            refine A_region ?_
            refine w_n ?_
            refine w_ret ?_
            obtain rfl := hD _ hr
            exact (w_br (w_tr (A_endR (A_cut (os' := []) (sl := [(4, .cv (.val (.str (bs (s ++ ([42] : Str))))))]) hwf) ⟨rfl, on_nil hwf⟩)))
          · refine w_seq ?_
            refine A_region ?_
            refine w_n ?_
            refine A_condH hr (fun cF12 hr => ?_) (fun cF12 hr => ?_)
            · refine w_seq ?_
              obtain ⟨s1, eF13, gF14, hr⟩ := hr.idxK
              obtain ⟨nF15, hr⟩ := hr.roomS
              refine A_region ?_
              refine w_n ?_
              refine w_ret ?_
              obtain rfl := hD _ hr
              exact (w_br (w_tr (A_endR (A_cut (os' := []) (sl := [(4, .cv (.val (.str (bs (s1 ++ ([43] : Str))))))]) hwf) ⟨rfl, on_nil hwf⟩)))
            · refine w_seq ?_
              refine A_region ?_
              refine w_n ?_
              refine A_condH hr (fun cF16 hr => ?_) (fun cF16 hr => ?_)
              · refine w_seq ?_
                obtain ⟨s2, eF17, gF18, hr⟩ := hr.idxK
                obtain ⟨nF19, hr⟩ := hr.roomS
                refine A_region ?_
                refine w_n ?_
                refine w_ret ?_
                obtain rfl := hD _ hr
                exact (w_br (w_tr (A_endR (A_cut (os' := []) (sl := [(4, .cv (.val (.str (bs (s2 ++ ([63] : Str))))))]) hwf) ⟨rfl, on_nil hwf⟩)))
              · refine w_skip ?_
                refine (w_bn (w_n ?_))
                refine w_seq ?_
                refine A_ops ?_
                refine A_upto 1 ?_
                obtain ⟨r2, eF20, hr⟩ := hr.bind
                refine A_call (out := ?o_eF20) (hp := ?p_eF20) ?c_eF20 ?d_eF20 ?_
                case c_eF20 => exact strings_Join_runs l ([] : Str) eF20
                case d_eF20 => rfl
                refine A_ops_end ?_
                refine w_n ?_
                refine w_ret ?_
                obtain rfl := hD _ hr
                exact (A_endR (A_cut (os' := []) (sl := [(4, .cv (.val (.str (bs r2))))]) hwf) ⟨rfl, on_nil hwf⟩)
      · refine w_block ?_
        refine w_Loop (fun xX : (List Str × Int) => ⟨[(1, .cv (.val (.sl (List.map (eL eRange) sets)))), (2, .cv (.val (.ptr (some (h.n + 0, 0))))), (5, .cv (.row 9 (List.map eS xX.1))), (19, .cv (.val (.sl (List.map eNode n.Kids)))), (20, .cv (.val (.int .i64 (n.Kids.length : Int)))), (21, .cv (.val (.int .i64 xX.2)))], h.on [some (.cells [.val (.int .i64 n.Kind), .val (.int .i64 n.Set), .val (.sl (List.map eNode n.Kids))])]⟩) hr (A_cut hwf) (fun W1 xX hr => ?_)
        obtain ⟨l1, v⟩ := xX
        dsimp only [syntax_printed.b1] at hr
        refine w_seq ?_
        refine A_region ?_
        refine w_n ?_
        refine w_seq ?_
        refine A_condH hr (fun cF21 hr => ?_) (fun cF21 hr => ?_)
        · refine w_skip ?_
          refine w_n ?_
          refine w_seq ?_
          refine w_block ?_
          refine w_seq ?_
          obtain ⟨x, nF22, eF23, gF24, hr⟩ := hr.idx
          refine A_region ?_
          refine w_n ?_
          refine w_seq ?_
          refine A_ops ?_
          refine A_upto 2 ?_
          obtain ⟨r3, eF25, hr⟩ := hr.bind
          refine A_call (out := ?o_eF25) (hp := ?p_eF25) ?c_eF25 ?d_eF25 ?_
          case c_eF25 => exact ih x sets eF25
          case d_eF25 => rfl
          refine A_ops_end ?_
          refine w_n ?_
          refine w_seq ?_
          refine w_seq ?_
          refine A_ops ?_
          refine A_upto 2 ?_
          obtain ⟨r4, eF26, hr⟩ := hr.bind
          refine A_call (out := ?o_eF26) (hp := ?p_eF26) ?c_eF26 ?d_eF26 ?_
          case c_eF26 => exact syntax_open_runs n x eF26
          case d_eF26 => rfl
          refine w_ops_nil ?_
          refine w_n ?_
          refine w_K (D := (Aft W1 D)) (fun xX : Str => ⟨[(1, .cv (.val (.sl (List.map (eL eRange) sets)))), (2, .cv (.val (.ptr (some (h.n + 0, 0))))), (5, .cv (.row 9 (List.map eS l1))), (8, .cv (.val (.str (bs xX)))), (19, .cv (.val (.sl (List.map eNode n.Kids)))), (20, .cv (.val (.int .i64 (n.Kids.length : Int)))), (21, .cv (.val (.int .i64 v)))], h.on [some (.cells [.val (.int .i64 n.Kind), .val (.int .i64 n.Set), .val (.sl (List.map eNode n.Kids))])]⟩) (fun xX : Str => syntax_printed.k2 l1 v xX) (fun xX s' hr ht => ?_) ?_
          · obtain ⟨s3, rfl⟩ : ∃ z, z = xX := ⟨xX, rfl⟩
            dsimp only [syntax_printed.k2] at hr ht
            refine (w_nT ht ?_)
            obtain ⟨nF27, hr⟩ := hr.room
            refine A_region ?_
            refine (w_bn (w_n ?_))
            refine A_region ?_
            exact (w_k ⟨((l1 ++ ([s3])), (IntKind.i64.wrap (v + (1 : Int)))), hr, (A_cut hwf)⟩)
          · refine A_condH hr (fun cF28 hr => ?_) (fun cF28 hr => ?_)
            · obtain ⟨nF29, hr⟩ := hr.roomS
              obtain ⟨nF30, hr⟩ := hr.roomS
              refine A_region ?_
              exact (w_k ⟨((([40] : Str) ++ r3) ++ ([41] : Str)), hr, (A_cut hwf)⟩)
            · refine w_skip ?_
              exact (w_k ⟨r3, hr, (A_cut hwf)⟩)
        · refine w_exit ?_
          exact (w_te (w_te (w_bx (w_k ⟨l1, (hr).map, (A_cut hwf)⟩))))
theorem syntax_printed_runs (n : TNode) (sets : List (List TRange)) {h : Heap} {a : Str} (e : syntax_printed n sets = some a) :
    Runs CT 14 [.cv (.val (.agg [.int .i64 n.Kind, .int .i64 n.Set, .sl (List.map eNode n.Kids)])), .cv (.val (.sl (List.map (eL eRange) sets)))] h fun o h' => o = [.cv (.val (.str (bs a)))] ∧ h' = h := by
  obtain ⟨fuN, fuH⟩ := lim_some e
  exact syntax_printed_runs_r fuN n sets (fuH fuN (Nat.le_refl fuN))
end Go.Val

/- part KW7 -/
/- scansion/syntax.Print runs as it is read off. -/
namespace Go.Val
set_option linter.unusedVariables false
set_option linter.unusedSimpArgs false
set_option maxRecDepth 20000
open Go.Proofs
theorem syntax_Print_runs (p : TProgram) {h : Heap} {a : (List UInt8 × Int)} (e : syntax_Print p = some a) :
    Runs CT 7 [.cv (.val (.agg [.sl (List.map (eL eRange) p.Sets), .sl (List.map eRule p.Rules)]))] h fun o h' => o = [.cv (.val (.sl (List.map eU a.1))), .cv (.val (.int .i64 a.2))] ∧ h' = h := by
  refine Runs.start Tryz.f7 _ Tryz.func7 rfl (by rw [Tryz.ntmps7]; simp) (by rfl) (by rfl) (fun hwf hu => ?_)
  obtain ⟨D, hD, hr⟩ : ∃ D : (List UInt8 × Int) → Prop, (∀ z, D z → z = a) ∧ Holds (syntax_Print p) D := ⟨fun z => z = a, fun _ h => h, Holds.intro e rfl⟩
  dsimp only [syntax_Print] at hr
  change wpCode _ _ _ _ _ ⟨[(0, .cv (.val (.agg [.sl (List.map (eL eRange) p.Sets), .sl (List.map eRule p.Rules)])))], h.on []⟩
  refine w_seq ?_
  refine A_region ?_
  refine w_n ?_
  refine w_seq ?_
  refine w_seq ?_
  refine A_ops ?_
  refine A_upto 1 ?_
  obtain ⟨r, eF1, hr⟩ := hr.bind
  refine A_call (out := ?o_eF1) (hp := ?p_eF1) ?c_eF1 ?d_eF1 ?_
  case c_eF1 => exact syntax_Right_runs p eF1
  case d_eF1 => rfl
  refine A_ops_end ?_
  refine w_n ?_
  refine A_condH hr (fun cF2 hr => ?_) (fun cF2 hr => ?_)
  · refine w_seq ?_
    refine A_region ?_
    refine w_n ?_
    refine w_ret ?_
    obtain rfl := hD _ hr
    exact (w_tr (A_endR (A_cut (os' := []) (sl := [(2, .cv (.val (.sl (List.map eU ([] : List UInt8))))), (3, .cv (.val (.int .i64 (1 : Int))))]) hwf) ⟨rfl, on_nil hwf⟩))
  · refine w_skip ?_
    refine w_n ?_
    refine w_seq ?_
    refine A_region ?_
    refine w_n ?_
    refine w_seq ?_
    refine w_seq ?_
    refine A_region ?_
    refine w_n ?_
    refine w_K (D := D) (fun xX : List UInt8 => ⟨[(4, .cv (.row 5 (List.map eU xX)))], h.on []⟩) (fun xX : List UInt8 => syntax_Print.k1 xX) (fun xX s' hr ht => ?_) ?_
    · obtain ⟨b, rfl⟩ : ∃ z, z = xX := ⟨xX, rfl⟩
      dsimp only [syntax_Print.k1] at hr ht
      refine (w_nT ht ?_)
      refine w_seq ?_
      refine A_region ?_
      refine w_n ?_
      refine w_ret ?_
      obtain rfl := hD _ hr
      exact (A_endR (.fix _ _ (.slot 2) 5 _ (by simp (disch := (apply Apart.mk; decide)) only [go_sem, Nat.reduceAdd, Nat.reduceLT, Nat.reduceMul, Nat.reduceLeDiff, Int.reduceToNat, Int.reduceLT, Int.reduceLE, cF2]; rfl) (A_cut (os' := []) (sl := [(2, .cv (.val (.sl (List.map eU b)))), (3, .cv (.val (.int .i64 (0 : Int))))]) hwf)) ⟨rfl, on_nil hwf⟩)
    · refine w_block ?_
      refine w_Loop (fun xX : (List UInt8 × Int) => ⟨[(1, .cv (.val (.ptr (some (h.n + 0, 0))))), (4, .cv (.row 5 (List.map eU xX.1))), (12, .cv (.val (.sl (List.map eRule p.Rules)))), (13, .cv (.val (.int .i64 (p.Rules.length : Int)))), (14, .cv (.val (.int .i64 xX.2)))], h.on [some (.cells [.val (.sl (List.map (eL eRange) p.Sets)), .val (.sl (List.map eRule p.Rules))])]⟩) hr (A_cut hwf) (fun W1 xX hr => ?_)
      obtain ⟨b1, v⟩ := xX
      dsimp only [syntax_Print.b1] at hr
      refine w_seq ?_
      refine A_region ?_
      refine w_n ?_
      refine w_seq ?_
      refine A_condH hr (fun cF3 hr => ?_) (fun cF3 hr => ?_)
      · refine w_skip ?_
        refine w_n ?_
        refine w_seq ?_
        refine w_block ?_
        refine w_seq ?_
        obtain ⟨x, nF4, eF5, gF6, hr⟩ := hr.idx
        refine A_region ?_
        refine w_n ?_
        refine w_seq ?_
        refine A_region ?_
        refine w_n ?_
        refine w_seq ?_
        refine w_seq ?_
        refine A_region ?_
        refine w_n ?_
        refine w_K (D := (Aft W1 D)) (fun xX : Str => ⟨[(1, .cv (.val (.ptr (some (h.n + 0, 0))))), (4, .cv (.row 5 (List.map eU b1))), (6, .cv (.val (.ptr (some (h.n + 1, 0))))), (7, .cv (.val (.str (bs xX)))), (12, .cv (.val (.sl (List.map eRule p.Rules)))), (13, .cv (.val (.int .i64 (p.Rules.length : Int)))), (14, .cv (.val (.int .i64 v)))], h.on [some (.cells [.val (.sl (List.map (eL eRange) p.Sets)), .val (.sl (List.map eRule p.Rules))]), some (.cells [.val (.bool x.Break), .val (.int .i64 x.Left.Kind), .val (.int .i64 x.Left.Set), .val (.sl (List.map eNode x.Left.Kids)), .val (.int .i64 x.Right.Kind), .val (.int .i64 x.Right.Set), .val (.sl (List.map eNode x.Right.Kids))])]⟩) (fun xX : Str => syntax_Print.k2 p b1 v x xX) (fun xX s' hr ht => ?_) ?_
        · obtain ⟨word, rfl⟩ : ∃ z, z = xX := ⟨xX, rfl⟩
          dsimp only [syntax_Print.k2] at hr ht
          refine (w_nT ht ?_)
          refine w_drawn [0, 1, 2, 3, 4, 5, 9, 10, 11, 12, 6, 7, 8, 13, 14, 15, 16, 17] (by rfl) ?_
          refine p_run (l := [0, 1, 2, 3, 4, 5, 9, 10, 11, 12]) (pend' := [12, 11, 10, 9, 5, 4, 3, 2, 1, 0]) (by simp (disch := (apply Apart.mk; decide)) only [go_sem, Nat.reduceAdd, Nat.reduceLT, Nat.reduceMul, Nat.reduceLeDiff, Int.reduceToNat, Int.reduceLT, Int.reduceLE]; rfl) rfl ?_
          obtain ⟨r1, eF7, hr⟩ := hr.bind
          refine p_call (out := ?o_eF7) (hp := ?p_eF7) (pend' := [12, 11, 10, 9, 1, 0]) rfl (by simp (disch := (apply Apart.mk; decide)) only [go_sem, Nat.reduceAdd, Nat.reduceLT, Nat.reduceMul, Nat.reduceLeDiff, Int.reduceToNat, Int.reduceLT, Int.reduceLE, Option.getD_some]) rfl (by simp (disch := (apply Apart.mk; decide)) only [go_sem, Nat.reduceAdd, Nat.reduceLT, Nat.reduceMul, Nat.reduceLeDiff, Int.reduceToNat, Int.reduceLT, Int.reduceLE, Option.getD_some]; rfl) (by simp (disch := (apply Apart.mk; decide)) only [go_sem, Nat.reduceAdd, Nat.reduceLT, Nat.reduceMul, Nat.reduceLeDiff, Int.reduceToNat, Int.reduceLT, Int.reduceLE, Option.getD_some]; rfl) (by simp (disch := (apply Apart.mk; decide)) only [go_sem, Nat.reduceAdd, Nat.reduceLT, Nat.reduceMul, Nat.reduceLeDiff, Int.reduceToNat, Int.reduceLT, Int.reduceLE, Option.getD_some]; rfl) (by rfl) ?c_eF7 ?d_eF7 ?_
          case c_eF7 => exact syntax_printed_runs x.Left p.Sets eF7
          case d_eF7 => rfl
          obtain ⟨nF8, hr⟩ := hr.roomS
          obtain ⟨nF9, hr⟩ := hr.roomS
          refine p_run (l := [7, 8]) (pend' := [8, 7, 12, 11, 10, 9, 1, 0]) (by simp (disch := (apply Apart.mk; decide)) only [go_sem, Nat.reduceAdd, Nat.reduceLT, Nat.reduceMul, Nat.reduceLeDiff, Int.reduceToNat, Int.reduceLT, Int.reduceLE, nF8, nF9]; rfl) rfl ?_
          obtain ⟨r2, eF10, hr⟩ := hr.bind
          refine p_call (out := ?o_eF10) (hp := ?p_eF10) (pend' := [8, 7, 1, 0]) rfl (by simp (disch := (apply Apart.mk; decide)) only [go_sem, Nat.reduceAdd, Nat.reduceLT, Nat.reduceMul, Nat.reduceLeDiff, Int.reduceToNat, Int.reduceLT, Int.reduceLE, Option.getD_some, nF8, nF9]) rfl (by simp (disch := (apply Apart.mk; decide)) only [go_sem, Nat.reduceAdd, Nat.reduceLT, Nat.reduceMul, Nat.reduceLeDiff, Int.reduceToNat, Int.reduceLT, Int.reduceLE, Option.getD_some, nF8, nF9]; rfl) (by simp (disch := (apply Apart.mk; decide)) only [go_sem, Nat.reduceAdd, Nat.reduceLT, Nat.reduceMul, Nat.reduceLeDiff, Int.reduceToNat, Int.reduceLT, Int.reduceLE, Option.getD_some, nF8, nF9]; rfl) (by simp (disch := (apply Apart.mk; decide)) only [go_sem, Nat.reduceAdd, Nat.reduceLT, Nat.reduceMul, Nat.reduceLeDiff, Int.reduceToNat, Int.reduceLT, Int.reduceLE, Option.getD_some, nF8, nF9]; rfl) (by rfl) ?c_eF10 ?d_eF10 ?_
          case c_eF10 => exact syntax_printed_runs x.Right p.Sets eF10
          case d_eF10 => rfl
          obtain ⟨nF11, hr⟩ := hr.roomS
          obtain ⟨nF12, hr⟩ := hr.roomS
          obtain ⟨nF13, hr⟩ := hr.room
          refine p_run (l := [14, 15]) (pend' := [15, 14, 8, 7, 1, 0]) (by simp (disch := (apply Apart.mk; decide)) only [go_sem, Nat.reduceAdd, Nat.reduceLT, Nat.reduceMul, Nat.reduceLeDiff, Int.reduceToNat, Int.reduceLT, Int.reduceLE, nF8, nF9, nF11, nF12, nF13]; rfl) rfl ?_
          refine p_op (pend' := []) rfl (by simp (disch := (apply Apart.mk; decide)) only [go_sem, Nat.reduceAdd, Nat.reduceLT, Nat.reduceMul, Nat.reduceLeDiff, Int.reduceToNat, Int.reduceLT, Int.reduceLE, nF8, nF9, nF11, nF12, nF13]) (by simp (disch := (apply Apart.mk; decide)) only [go_sem, Nat.reduceAdd, Nat.reduceLT, Nat.reduceMul, Nat.reduceLeDiff, Int.reduceToNat, Int.reduceLT, Int.reduceLE, nF8, nF9, nF11, nF12, nF13]; rfl) (by rfl) ?_
          refine p_op (pend' := []) rfl (by simp (disch := (apply Apart.mk; decide)) only [go_sem, Nat.reduceAdd, Nat.reduceLT, Nat.reduceMul, Nat.reduceLeDiff, Int.reduceToNat, Int.reduceLT, Int.reduceLE, nF8, nF9, nF11, nF12, nF13]) (by simp (disch := (apply Apart.mk; decide)) only [go_sem, Nat.reduceAdd, Nat.reduceLT, Nat.reduceMul, Nat.reduceLeDiff, Int.reduceToNat, Int.reduceLT, Int.reduceLE, nF8, nF9, nF11, nF12, nF13]; rfl) (by rfl) ?_
          refine p_end (by simp (disch := (apply Apart.mk; decide)) only [go_sem, Nat.reduceAdd, Nat.reduceLT, Nat.reduceMul, Nat.reduceLeDiff, Int.reduceToNat, Int.reduceLT, Int.reduceLE, nF8, nF9, nF11, nF12, nF13]) ?_
          refine (w_bn (w_n ?_))
          refine A_region ?_
          exact (w_k ⟨((b1 ++ ((((word ++ r1) ++ ([47] : Str)) ++ r2) ++ ([59, 10] : Str))), (IntKind.i64.wrap (v + (1 : Int)))), hr, (A_cut hwf)⟩)
        · refine A_condH hr (fun cF14 hr => ?_) (fun cF14 hr => ?_)
          · refine A_region ?_
            exact (w_k ⟨([98, 114, 101, 97, 107, 32] : Str), hr, (A_cut hwf)⟩)
          · refine w_skip ?_
            exact (w_k ⟨([107, 101, 101, 112, 32] : Str), hr, (A_cut hwf)⟩)
      · refine w_exit ?_
        exact (w_te (w_te (w_bx (w_k ⟨b1, (hr).map, (A_cut hwf)⟩))))
end Go.Val

/- part KW115 -/
/- scansion/scansionref02.rising runs as it is read off. -/
namespace Go.Val
set_option linter.unusedVariables false
set_option linter.unusedSimpArgs false
set_option maxRecDepth 20000
open Go.Proofs
theorem scansionref02_rising_runs (l : List Int) (n : Int) {h : Heap} {a : List Int} (e : scansionref02_rising l n = some a) :
    Runs CT 115 [.cv (.val (.sl (List.map eI l))), .cv (.val (.int .i64 n))] h fun o h' => o = [.cv (.val (.sl (List.map eI a)))] ∧ h' = h := by
  refine Runs.start Tryz.f115 _ Tryz.func115 rfl (by rw [Tryz.ntmps115]; simp) (by rfl) (by rfl) (fun hwf hu => ?_)
  obtain ⟨D, hD, hr⟩ : ∃ D : List Int → Prop, (∀ z, D z → z = a) ∧ Holds (scansionref02_rising l n) D := ⟨fun z => z = a, fun _ h => h, Holds.intro e rfl⟩
  dsimp only [scansionref02_rising] at hr
  change wpCode _ _ _ _ _ ⟨[(0, .cv (.val (.sl (List.map eI l)))), (1, .cv (.val (.int .i64 n)))], h.on []⟩
  refine w_seq ?_
  refine A_region ?_
  refine w_n ?_
  refine w_seq ?_
  refine A_region ?_
  refine w_n ?_
  refine w_seq ?_
  refine w_K (D := D) (fun xX : Int => ⟨[(0, .cv (.val (.sl (List.map eI l)))), (1, .cv (.val (.int .i64 n))), (5, .cv (.val (.int .i64 xX)))], h.on []⟩) (fun xX : Int => scansionref02_rising.k1 l n xX) (fun xX s' hr ht => ?_) ?_
  · obtain ⟨at_, rfl⟩ : ∃ z, z = xX := ⟨xX, rfl⟩
    dsimp only [scansionref02_rising.k1] at hr ht
    refine (w_nT ht ?_)
    refine w_seq ?_
    obtain ⟨v, vF5, hr⟩ := hr.bind
    refine w_joinR (sj := ⟨[(0, .cv (.val (.sl (List.map eI l)))), (1, .cv (.val (.int .i64 n))), (5, .cv (.val (.int .i64 at_))), (32, .cv (.val (.bool v)))], h.on []⟩) (A_ops ?_) ?_
    · have hr := Holds.intro (D := fun z => z = v) vF5 rfl
      refine A_upto 5 ?_
      rcases hr.ite with ⟨cF1, hr⟩ | ⟨cF1, hr⟩
      · obtain ⟨n1, nF2, eF3, gF4, hr⟩ := hr.idx
        refine A_ops_end ?_
        obtain rfl : _ = v := hr
        exact w_k (A_cut hwf)
      · refine A_ops_end ?_
        obtain rfl : _ = v := hr
        exact w_k (A_cut hwf)
    refine A_condH hr (fun cF6 hr => ?_) (fun cF6 hr => ?_)
    · refine w_seq ?_
      refine A_region ?_
      refine w_n ?_
      refine w_ret ?_
      obtain rfl := hD _ hr
      exact (w_tr (A_endR (A_cut (os' := []) (sl := [(4, .cv (.val (.sl (List.map eI l))))]) hwf) ⟨rfl, on_nil hwf⟩))
    · refine w_skip ?_
      refine w_n ?_
      refine w_seq ?_
      obtain ⟨nF7, nF8, hr⟩ := hr.cutH
      obtain ⟨nF9, hr⟩ := hr.room
      refine A_region ?_
      refine w_n ?_
      refine w_seq ?_
      obtain ⟨nF10, hr⟩ := hr.room
      refine A_region ?_
      refine w_n ?_
      refine w_seq ?_
      obtain ⟨nF11, nF12, hr⟩ := hr.cutL
      obtain ⟨nF13, hr⟩ := hr.room
      refine A_region ?_
      refine w_n ?_
      refine w_ret ?_
      obtain rfl := hD _ hr
      exact (A_endR (.fix _ _ (.slot 4) 3 _ (by simp (disch := (apply Apart.mk; decide)) only [go_sem, Nat.reduceAdd, Nat.reduceLT, Nat.reduceMul, Nat.reduceLeDiff, Int.reduceToNat, Int.reduceLT, Int.reduceLE, cF6]; rfl) (A_cut (os' := []) (sl := [(4, .cv (.val (.sl (List.map eI (((List.take (Int.toNat at_) l) ++ ([n])) ++ (List.drop (Int.toNat at_) l))))))]) hwf)) ⟨rfl, on_nil hwf⟩)
  · refine w_block ?_
    refine w_Loop (fun xX : Int => ⟨[(0, .cv (.val (.sl (List.map eI l)))), (1, .cv (.val (.int .i64 n))), (5, .cv (.val (.int .i64 xX)))], h.on []⟩) hr (A_cut hwf) (fun W1 xX hr => ?_)
    obtain ⟨at_1, rfl⟩ : ∃ z, z = xX := ⟨xX, rfl⟩
    dsimp only [scansionref02_rising.b1] at hr
    refine w_seq ?_
    obtain ⟨v1, vF18, hr⟩ := hr.bind
    refine w_joinR (sj := ⟨[(0, .cv (.val (.sl (List.map eI l)))), (1, .cv (.val (.int .i64 n))), (5, .cv (.val (.int .i64 at_1))), (18, .cv (.val (.bool v1)))], h.on []⟩) (A_ops ?_) ?_
    · have hr := Holds.intro (D := fun z => z = v1) vF18 rfl
      refine A_upto 5 ?_
      rcases hr.ite with ⟨cF14, hr⟩ | ⟨cF14, hr⟩
      · obtain ⟨n2, nF15, eF16, gF17, hr⟩ := hr.idx
        refine A_ops_end ?_
        obtain rfl : _ = v1 := hr
        exact w_k (A_cut hwf)
      · refine A_ops_end ?_
        obtain rfl : _ = v1 := hr
        exact w_k (A_cut hwf)
    refine A_condH hr (fun cF19 hr => ?_) (fun cF19 hr => ?_)
    · refine w_skip ?_
      refine w_n ?_
      refine w_block ?_
      refine A_region ?_
      exact (w_bn (w_k ⟨(IntKind.i64.wrap (at_1 + (1 : Int))), hr, (A_cut hwf)⟩))
    · refine w_exit ?_
      exact (w_te (w_te (w_bx (w_k ⟨at_1, (hr).map, (A_cut hwf)⟩))))
end Go.Val

/- part KW86 -/
/- scansion/scansionref02.edges runs as it is read off. -/
namespace Go.Val
set_option linter.unusedVariables false
set_option linter.unusedSimpArgs false
set_option maxRecDepth 20000
open Go.Proofs
theorem scansionref02_edges_runs (a_ : List TRange) (b : List TRange) {h : Heap} {a : List Int} (e : scansionref02_edges a_ b = some a) :
    Runs CT 86 [.cv (.val (.sl (List.map eRange a_))), .cv (.val (.sl (List.map eRange b)))] h fun o h' => o = [.cv (.val (.sl (List.map eI a)))] ∧ h' = h := by
  refine Runs.start Tryz.f86 _ Tryz.func86 rfl (by rw [Tryz.ntmps86]; simp) (by rfl) (by rfl) (fun hwf hu => ?_)
  obtain ⟨D, hD, hr⟩ : ∃ D : List Int → Prop, (∀ z, D z → z = a) ∧ Holds (scansionref02_edges a_ b) D := ⟨fun z => z = a, fun _ h => h, Holds.intro e rfl⟩
  dsimp only [scansionref02_edges] at hr
  change wpCode _ _ _ _ _ ⟨[(0, .cv (.val (.sl (List.map eRange a_)))), (1, .cv (.val (.sl (List.map eRange b))))], h.on []⟩
  refine w_seq ?_
  refine A_region ?_
  refine w_n ?_
  refine w_seq ?_
  refine A_region ?_
  refine w_n ?_
  refine w_seq ?_
  obtain ⟨nF1, hr⟩ := hr.room
  obtain ⟨nF2, hr⟩ := hr.room
  refine A_region ?_
  refine w_n ?_
  refine w_seq ?_
  refine w_seq ?_
  refine A_region ?_
  refine w_n ?_
  refine w_K (D := D) (fun xX : List Int => ⟨[(5, .cv (.val (.sl (List.map eI xX))))], h.on []⟩) (fun xX : List Int => scansionref02_edges.k1 xX) (fun xX s' hr ht => ?_) ?_
  · obtain ⟨out, rfl⟩ : ∃ z, z = xX := ⟨xX, rfl⟩
    dsimp only [scansionref02_edges.k1] at hr ht
    refine (w_nT ht ?_)
    refine w_seq ?_
    refine A_region ?_
    refine w_n ?_
    refine w_ret ?_
    obtain rfl := hD _ hr
    exact (A_endR (A_cut (os' := []) (sl := [(4, .cv (.val (.sl (List.map eI out))))]) hwf) ⟨rfl, on_nil hwf⟩)
  · refine w_block ?_
    refine w_Loop (fun xX : (List Int × Int) => ⟨[(5, .cv (.val (.sl (List.map eI xX.1)))), (6, .cv (.row 74 (List.map eRange (a_ ++ b)))), (7, .cv (.val (.int .i64 xX.2)))], h.on []⟩) hr (.fix _ _ (.slot 5) 3 _ (by simp (disch := (apply Apart.mk; decide)) only [go_sem, Nat.reduceAdd, Nat.reduceLT, Nat.reduceMul, Nat.reduceLeDiff, Int.reduceToNat, Int.reduceLT, Int.reduceLE]; rfl) (A_cut hwf)) (fun W1 xX hr => ?_)
    obtain ⟨out1, i⟩ := xX
    dsimp only [scansionref02_edges.b1] at hr
    refine w_seq ?_
    refine w_seq ?_
    refine A_region ?_
    refine w_n ?_
    refine A_condH hr (fun cF3 hr => ?_) (fun cF3 hr => ?_)
    · refine w_skip ?_
      refine w_n ?_
      refine w_seq ?_
      refine w_K (D := (Aft W1 D)) (fun xX : List Int => ⟨[(5, .cv (.val (.sl (List.map eI xX)))), (6, .cv (.row 74 (List.map eRange (a_ ++ b)))), (7, .cv (.val (.int .i64 i)))], h.on []⟩) (fun xX : List Int => scansionref02_edges.k2 i xX) (fun xX s' hr ht => ?_) ?_
      · obtain ⟨out2, rfl⟩ : ∃ z, z = xX := ⟨xX, rfl⟩
        dsimp only [scansionref02_edges.k2] at hr ht
        refine (w_nT ht ?_)
        refine A_region ?_
        exact (w_k ⟨(out2, (IntKind.i64.wrap (i + (1 : Int)))), hr, (A_cut hwf)⟩)
      · refine w_block ?_
        refine w_seq ?_
        refine A_ops ?_
        (obtain ⟨x, nF4, eF5, gF6, hr⟩ := hr.idx; replace eF5 := congrArg (Option.map eRange) eF5; rw [← List.getElem?_map, List.map_append] at eF5; simp only [Option.map_some, List.map_append, List.length_append, eRange] at nF4 eF5 gF6)
        refine A_upto 6 ?_
        obtain ⟨r, eF7, hr⟩ := hr.bind
        refine A_call (out := ?o_eF7) (hp := ?p_eF7) ?c_eF7 ?d_eF7 ?_
        case c_eF7 => exact scansionref02_rising_runs out1 x.Low eF7
        case d_eF7 => rfl
        refine A_ops_end ?_
        refine w_n ?_
        refine w_seq ?_
        refine A_region ?_
        refine w_n ?_
        refine A_condH hr (fun cF8 hr => ?_) (fun cF8 hr => ?_)
        · refine A_ops ?_
          refine A_upto 7 ?_
          obtain ⟨r1, eF9, hr⟩ := hr.bind
          refine A_call (out := ?o_eF9) (hp := ?p_eF9) ?c_eF9 ?d_eF9 ?_
          case c_eF9 => exact scansionref02_rising_runs r (IntKind.i64.wrap (x.High + (1 : Int))) eF9
          case d_eF9 => rfl
          refine A_ops_end ?_
          exact (w_bn (w_k ⟨r1, hr, (A_cut hwf)⟩))
        · refine w_skip ?_
          exact (w_bn (w_k ⟨r, hr, (A_cut hwf)⟩))
    · refine w_exit ?_
      exact (w_te (w_te (w_bx (w_k ⟨out1, (hr).map, (A_cut hwf)⟩))))
end Go.Val

/- part KW87 -/
/- scansion/scansionref02.Has runs as it is read off. -/
namespace Go.Val
set_option linter.unusedVariables false
set_option linter.unusedSimpArgs false
set_option maxRecDepth 20000
open Go.Proofs
theorem scansionref02_Has_runs (a_ : List TRange) (r : Int) {h : Heap} {a : Bool} (e : scansionref02_Has a_ r = some a) :
    Runs CT 87 [.cv (.val (.sl (List.map eRange a_))), .cv (.val (.int .i64 r))] h fun o h' => o = [.cv (.val (.bool a))] ∧ h' = h := by
  refine Runs.start Tryz.f87 _ Tryz.func87 rfl (by rw [Tryz.ntmps87]; simp) (by rfl) (by rfl) (fun hwf hu => ?_)
  obtain ⟨D, hD, hr⟩ : ∃ D : Bool → Prop, (∀ z, D z → z = a) ∧ Holds (scansionref02_Has a_ r) D := ⟨fun z => z = a, fun _ h => h, Holds.intro e rfl⟩
  dsimp only [scansionref02_Has] at hr
  change wpCode _ _ _ _ _ ⟨[(0, .cv (.val (.sl (List.map eRange a_)))), (1, .cv (.val (.int .i64 r)))], h.on []⟩
  refine w_seq ?_
  refine A_region ?_
  refine w_n ?_
  refine w_seq ?_
  refine w_seq ?_
  refine A_region ?_
  refine w_n ?_
  refine w_K (D := D) (fun xX : Unit => ⟨[], h.on []⟩) (fun xX : Unit => scansionref02_Has.k1) (fun xX s' hr ht => ?_) ?_
  · dsimp only [scansionref02_Has.k1] at hr ht
    refine (w_nT ht ?_)
    refine w_seq ?_
    refine A_region ?_
    refine w_n ?_
    refine w_ret ?_
    obtain rfl := hD _ hr
    exact (A_endR (A_cut (os' := []) (sl := [(4, .cv (.val (.bool false)))]) hwf) ⟨rfl, on_nil hwf⟩)
  · refine w_block ?_
    refine w_Loop (fun xX : Int => ⟨[(0, .cv (.val (.sl (List.map eRange a_)))), (1, .cv (.val (.int .i64 r))), (5, .cv (.val (.int .i64 xX)))], h.on []⟩) hr (A_cut hwf) (fun W1 xX hr => ?_)
    obtain ⟨i, rfl⟩ : ∃ z, z = xX := ⟨xX, rfl⟩
    dsimp only [scansionref02_Has.b1] at hr
    refine w_seq ?_
    refine w_seq ?_
    refine A_region ?_
    refine w_n ?_
    refine A_condH hr (fun cF1 hr => ?_) (fun cF1 hr => ?_)
    · refine w_skip ?_
      refine w_n ?_
      refine w_seq ?_
      refine w_block ?_
      obtain ⟨v, vF6, hr⟩ := hr.bind
      refine w_joinR (sj := ⟨[(0, .cv (.val (.sl (List.map eRange a_)))), (1, .cv (.val (.int .i64 r))), (5, .cv (.val (.int .i64 i))), (27, .cv (.val (.bool v)))], h.on []⟩) (A_ops ?_) ?_
      · have hr := Holds.intro (D := fun z => z = v) vF6 rfl
        obtain ⟨x, nF2, eF3, gF4, hr⟩ := hr.idx
        refine A_upto 8 ?_
        rcases hr.ite with ⟨cF5, hr⟩ | ⟨cF5, hr⟩
        · refine A_ops_end ?_
          obtain rfl : _ = v := hr
          exact w_k (A_cut hwf)
        · refine A_ops_end ?_
          obtain rfl : _ = v := hr
          exact w_k (A_cut hwf)
      refine A_condH hr (fun cF7 hr => ?_) (fun cF7 hr => ?_)
      · refine w_seq ?_
        refine A_region ?_
        refine w_n ?_
        refine w_ret ?_
        obtain rfl := hD _ hr
        exact (w_br (w_tr (w_tr (w_br (w_tr (w_tr (A_endR (A_cut (os' := []) (sl := [(4, .cv (.val (.bool true)))]) hwf) ⟨rfl, on_nil hwf⟩)))))))
      · refine w_skip ?_
        refine (w_bn (w_n ?_))
        refine A_region ?_
        exact (w_k ⟨(IntKind.i64.wrap (i + (1 : Int))), hr, (A_cut hwf)⟩)
    · refine w_exit ?_
      exact (w_te (w_te (w_bx (w_k ⟨(), (hr).map, (A_cut hwf)⟩))))
end Go.Val

/- part KW88 -/
/- scansion/scansionref02.with runs as it is read off. -/
namespace Go.Val
set_option linter.unusedVariables false
set_option linter.unusedSimpArgs false
set_option maxRecDepth 20000
open Go.Proofs
theorem scansionref02_with_runs (l : List TRange) (low : Int) (high : Int) {h : Heap} {a : List TRange} (e : scansionref02_with l low high = some a) :
    Runs CT 88 [.cv (.row 74 (List.map eRange l)), .cv (.val (.int .i64 low)), .cv (.val (.int .i64 high))] h fun o h' => o = [.cv (.row 74 (List.map eRange a))] ∧ h' = h := by
  refine Runs.start Tryz.f88 _ Tryz.func88 rfl (by rw [Tryz.ntmps88]; simp) (by rfl) (by rfl) (fun hwf hu => ?_)
  obtain ⟨D, hD, hr⟩ : ∃ D : List TRange → Prop, (∀ z, D z → z = a) ∧ Holds (scansionref02_with l low high) D := ⟨fun z => z = a, fun _ h => h, Holds.intro e rfl⟩
  dsimp only [scansionref02_with] at hr
  change wpCode _ _ _ _ _ ⟨[(0, .cv (.row 74 (List.map eRange l))), (1, .cv (.val (.int .i64 low))), (2, .cv (.val (.int .i64 high)))], h.on []⟩
  refine w_seq ?_
  refine A_region ?_
  refine w_n ?_
  refine w_seq ?_
  refine A_region ?_
  refine w_n ?_
  refine w_seq ?_
  obtain ⟨v, vF5, hr⟩ := hr.bind
  refine w_joinR (sj := ⟨[(0, .cv (.row 74 (List.map eRange l))), (1, .cv (.val (.int .i64 low))), (2, .cv (.val (.int .i64 high))), (7, .cv (.val (.int .i64 (l.length : Int)))), (22, .cv (.val (.bool v)))], h.on []⟩) (A_ops ?_) ?_
  · have hr := Holds.intro (D := fun z => z = v) vF5 rfl
    refine A_upto 3 ?_
    rcases hr.ite with ⟨cF1, hr⟩ | ⟨cF1, hr⟩
    · obtain ⟨x, nF2, eF3, gF4, hr⟩ := hr.idx
      refine A_ops_end ?_
      obtain rfl : _ = v := hr
      exact w_k (A_cut hwf)
    · refine A_ops_end ?_
      obtain rfl : _ = v := hr
      exact w_k (A_cut hwf)
  refine A_condH hr (fun cF6 hr => ?_) (fun cF6 hr => ?_)
  · refine w_seq ?_
    obtain ⟨x1, nF7, eF8, gF9, hr⟩ := hr.idx
    refine A_region ?_
    refine w_n ?_
    refine w_seq ?_
    refine A_region ?_
    refine w_n ?_
    refine w_ret ?_
    obtain rfl := hD _ hr
    exact (w_tr (A_endR (A_cut (os' := []) (sl := [(6, .cv (.row 74 (List.map eRange (List.set l (Int.toNat (IntKind.i64.wrap ((l.length : Int) - (1 : Int)))) (TRange.mk x1.Low high)))))]) hwf) ⟨rfl, on_nil hwf⟩))
  · refine w_skip ?_
    refine w_n ?_
    refine w_seq ?_
    obtain ⟨nF10, hr⟩ := hr.room
    refine A_region ?_
    refine w_n ?_
    refine w_ret ?_
    obtain rfl := hD _ hr
    exact (A_endR (A_cut (os' := []) (sl := [(6, .cv (.row 74 (List.map eRange (l ++ ([(TRange.mk low high)])))))]) hwf) ⟨rfl, on_nil hwf⟩)
end Go.Val

/- part KW61 -/
/- scansion/scansionref02.pick runs as it is read off. -/
namespace Go.Val
set_option linter.unusedVariables false
set_option linter.unusedSimpArgs false
set_option maxRecDepth 20000
open Go.Proofs
theorem scansionref02_pick_runs (a_ : List TRange) (b : List TRange) (kind : Int) {h : Heap} {a : List TRange} (e : scansionref02_pick a_ b kind = some a) :
    Runs CT 61 [.cv (.val (.sl (List.map eRange a_))), .cv (.val (.sl (List.map eRange b))), .cv (.val (.int .i64 kind))] h fun o h' => o = [.cv (.val (.sl (List.map eRange a)))] ∧ h' = h := by
  refine Runs.start Tryz.f61 _ Tryz.func61 rfl (by rw [Tryz.ntmps61]; simp) (by rfl) (by rfl) (fun hwf hu => ?_)
  obtain ⟨D, hD, hr⟩ : ∃ D : List TRange → Prop, (∀ z, D z → z = a) ∧ Holds (scansionref02_pick a_ b kind) D := ⟨fun z => z = a, fun _ h => h, Holds.intro e rfl⟩
  dsimp only [scansionref02_pick] at hr
  change wpCode _ _ _ _ _ ⟨[(0, .cv (.val (.sl (List.map eRange a_)))), (1, .cv (.val (.sl (List.map eRange b)))), (2, .cv (.val (.int .i64 kind)))], h.on []⟩
  refine w_seq ?_
  refine A_region ?_
  refine w_n ?_
  refine w_seq ?_
  refine A_ops ?_
  refine A_upto 2 ?_
  obtain ⟨r, eF1, hr⟩ := hr.bind
  refine A_call (out := ?o_eF1) (hp := ?p_eF1) ?c_eF1 ?d_eF1 ?_
  case c_eF1 => exact scansionref02_edges_runs a_ b eF1
  case d_eF1 => rfl
  refine A_ops_end ?_
  refine w_n ?_
  refine w_seq ?_
  refine A_region ?_
  refine w_n ?_
  refine w_seq ?_
  refine w_seq ?_
  refine A_region ?_
  refine w_n ?_
  refine w_K (D := D) (fun xX : List TRange => ⟨[(8, .cv (.row 74 (List.map eRange xX)))], h.on []⟩) (fun xX : List TRange => scansionref02_pick.k1 xX) (fun xX s' hr ht => ?_) ?_
  · obtain ⟨out, rfl⟩ : ∃ z, z = xX := ⟨xX, rfl⟩
    dsimp only [scansionref02_pick.k1] at hr ht
    refine (w_nT ht ?_)
    refine w_seq ?_
    refine A_region ?_
    refine w_n ?_
    refine w_ret ?_
    obtain rfl := hD _ hr
    exact (A_endR (.fix _ _ (.slot 6) 74 _ (by simp (disch := (apply Apart.mk; decide)) only [go_sem, Nat.reduceAdd, Nat.reduceLT, Nat.reduceMul, Nat.reduceLeDiff, Int.reduceToNat, Int.reduceLT, Int.reduceLE]; rfl) (A_cut (os' := []) (sl := [(6, .cv (.val (.sl (List.map eRange out))))]) hwf)) ⟨rfl, on_nil hwf⟩)
  · refine w_block ?_
    refine w_Loop (fun xX : (List TRange × Int) => ⟨[(0, .cv (.val (.sl (List.map eRange a_)))), (1, .cv (.val (.sl (List.map eRange b)))), (2, .cv (.val (.int .i64 kind))), (7, .cv (.val (.sl (List.map eI r)))), (8, .cv (.row 74 (List.map eRange xX.1))), (9, .cv (.val (.int .i64 xX.2)))], h.on []⟩) hr (A_cut hwf) (fun W1 xX hr => ?_)
    obtain ⟨out1, i⟩ := xX
    dsimp only [scansionref02_pick.b1] at hr
    refine w_seq ?_
    refine w_seq ?_
    refine A_region ?_
    refine w_n ?_
    refine A_condH hr (fun cF2 hr => ?_) (fun cF2 hr => ?_)
    · refine w_skip ?_
      refine w_n ?_
      refine w_seq ?_
      refine w_K (D := (Aft W1 D)) (fun xX : List TRange => ⟨[(0, .cv (.val (.sl (List.map eRange a_)))), (1, .cv (.val (.sl (List.map eRange b)))), (2, .cv (.val (.int .i64 kind))), (7, .cv (.val (.sl (List.map eI r)))), (8, .cv (.row 74 (List.map eRange xX))), (9, .cv (.val (.int .i64 i)))], h.on []⟩) (fun xX : List TRange => scansionref02_pick.k2 i xX) (fun xX s' hr ht => ?_) ?_
      · obtain ⟨out2, rfl⟩ : ∃ z, z = xX := ⟨xX, rfl⟩
        dsimp only [scansionref02_pick.k2] at hr ht
        refine (w_nT ht ?_)
        refine A_region ?_
        exact (w_k ⟨(out2, (IntKind.i64.wrap (i + (1 : Int)))), hr, (A_cut hwf)⟩)
      · refine w_block ?_
        refine w_seq ?_
        refine A_region ?_
        refine w_n ?_
        refine w_seq ?_
        refine w_seq ?_
        refine A_region ?_
        refine w_n ?_
        refine w_K (D := (Aft W1 D)) (fun xX : Int => ⟨[(0, .cv (.val (.sl (List.map eRange a_)))), (1, .cv (.val (.sl (List.map eRange b)))), (2, .cv (.val (.int .i64 kind))), (7, .cv (.val (.sl (List.map eI r)))), (8, .cv (.row 74 (List.map eRange out1))), (9, .cv (.val (.int .i64 i))), (10, .cv (.val (.int .i64 xX)))], h.on []⟩) (fun xX : Int => scansionref02_pick.k3 a_ b kind r out1 i xX) (fun xX s' hr ht => ?_) ?_
        · obtain ⟨high, rfl⟩ : ∃ z, z = xX := ⟨xX, rfl⟩
          dsimp only [scansionref02_pick.k3] at hr ht
          refine (w_nT ht ?_)
          refine w_seq ?_
          refine A_ops ?_
          obtain ⟨n, nF3, eF4, gF5, hr⟩ := hr.idx
          refine A_upto 5 ?_
          obtain ⟨r1, eF6, hr⟩ := hr.bind
          refine A_call (out := ?o_eF6) (hp := ?p_eF6) ?c_eF6 ?d_eF6 ?_
          case c_eF6 => exact scansionref02_Has_runs a_ n eF6
          case d_eF6 => rfl
          refine A_ops_end ?_
          refine w_n ?_
          refine w_seq ?_
          refine A_ops ?_
          refine A_upto 5 ?_
          obtain ⟨r2, eF7, hr⟩ := hr.bind
          refine A_call (out := ?o_eF7) (hp := ?p_eF7) ?c_eF7 ?d_eF7 ?_
          case c_eF7 => exact scansionref02_Has_runs b n eF7
          case d_eF7 => rfl
          refine A_ops_end ?_
          refine w_n ?_
          refine w_joinR (sj := ⟨[(0, .cv (.val (.sl (List.map eRange a_)))), (1, .cv (.val (.sl (List.map eRange b)))), (2, .cv (.val (.int .i64 kind))), (7, .cv (.val (.sl (List.map eI r)))), (8, .cv (.row 74 (List.map eRange out1))), (9, .cv (.val (.int .i64 i))), (10, .cv (.val (.int .i64 high))), (11, .cv (.val (.bool r1))), (12, .cv (.val (.bool r2))), (13, .cv (.val (.bool (r1 || r2))))], h.on []⟩) (A_ops ?_) ?_
          · refine A_upto 2 ?_
            rcases Bool.eq_false_or_eq_true r1 with cF8 | cF8
            · refine A_ops_end ?_
              exact w_k (A_cut hwf)
            · refine A_ops_end ?_
              exact w_k (A_cut hwf)
          refine w_seq ?_
          refine w_seq ?_
          refine A_region ?_
          refine w_n ?_
          refine w_K (D := (Aft W1 D)) (fun xX : Bool => ⟨[(0, .cv (.val (.sl (List.map eRange a_)))), (1, .cv (.val (.sl (List.map eRange b)))), (2, .cv (.val (.int .i64 kind))), (7, .cv (.val (.sl (List.map eI r)))), (8, .cv (.row 74 (List.map eRange out1))), (9, .cv (.val (.int .i64 i))), (10, .cv (.val (.int .i64 high))), (13, .cv (.val (.bool xX)))], h.on []⟩) (fun xX : Bool => scansionref02_pick.k4 out1 i high n xX) (fun xX s' hr ht => ?_) ?_
          · obtain ⟨is1, rfl⟩ : ∃ z, z = xX := ⟨xX, rfl⟩
            dsimp only [scansionref02_pick.k4] at hr ht
            refine (w_nT ht ?_)
            refine w_seq ?_
            refine A_region ?_
            refine w_n ?_
            refine A_condH hr (fun cF9 hr => ?_) (fun cF9 hr => ?_)
            · refine A_ops ?_
              refine A_upto 6 ?_
              obtain ⟨r3, eF10, hr⟩ := hr.bind
              refine A_call (out := ?o_eF10) (hp := ?p_eF10) ?c_eF10 ?d_eF10 ?_
              case c_eF10 => exact scansionref02_with_runs out1 n high eF10
              case d_eF10 => rfl
              refine A_ops_end ?_
              exact (w_bn (w_k ⟨r3, hr, (A_cut hwf)⟩))
            · refine w_skip ?_
              exact (w_bn (w_k ⟨out1, hr, (A_cut hwf)⟩))
          · refine w_block ?_
            refine w_seq ?_
            refine A_region ?_
            refine w_n ?_
            refine A_condH hr (fun cF11 hr => ?_) (fun cF11 hr => ?_)
            · refine A_ops ?_
              refine A_upto 2 ?_
              rcases hr.ite with ⟨cF12, hr⟩ | ⟨cF12, hr⟩
              · refine A_ops_end ?_
                exact (w_bn (w_k ⟨r2, hr, (A_cut hwf)⟩))
              · refine A_ops_end ?_
                exact (w_bn (w_k ⟨false, hr, (A_cut hwf)⟩))
            · refine w_seq ?_
              refine A_region ?_
              refine w_n ?_
              refine A_condH hr (fun cF13 hr => ?_) (fun cF13 hr => ?_)
              · refine A_ops ?_
                refine A_upto 2 ?_
                rcases hr.ite with ⟨cF14, hr⟩ | ⟨cF14, hr⟩
                · refine A_ops_end ?_
                  exact (w_bn (w_k ⟨(!r2), hr, (A_cut hwf)⟩))
                · refine A_ops_end ?_
                  exact (w_bn (w_k ⟨false, hr, (A_cut hwf)⟩))
              · refine w_seq ?_
                refine A_region ?_
                refine w_n ?_
                refine A_condH hr (fun cF15 hr => ?_) (fun cF15 hr => ?_)
                · refine A_ops ?_
                  refine A_upto 3 ?_
                  rcases hr.ite with ⟨cF16, hr⟩ | ⟨cF16, hr⟩
                  · refine A_ops_end ?_
                    exact (w_bn (w_k ⟨(!r2), hr, (A_cut hwf)⟩))
                  · refine A_ops_end ?_
                    exact (w_bn (w_k ⟨false, hr, (A_cut hwf)⟩))
                · refine w_skip ?_
                  exact (w_bn (w_k ⟨(r1 || r2), hr, (A_cut hwf)⟩))
        · refine A_condH hr (fun cF17 hr => ?_) (fun cF17 hr => ?_)
          · obtain ⟨n1, nF18, eF19, gF20, hr⟩ := hr.idx
            refine A_region ?_
            exact (w_k ⟨(IntKind.i64.wrap (n1 - (1 : Int))), hr, (A_cut hwf)⟩)
          · refine w_skip ?_
            exact (w_k ⟨(1114111 : Int), hr, (A_cut hwf)⟩)
    · refine w_exit ?_
      exact (w_te (w_te (w_bx (w_k ⟨out1, (hr).map, (A_cut hwf)⟩))))
end Go.Val

/- part KW41 -/
/- scansion/scansionref02.Make runs as it is read off. -/
namespace Go.Val
set_option linter.unusedVariables false
set_option linter.unusedSimpArgs false
set_option maxRecDepth 20000
open Go.Proofs
theorem scansionref02_Make_runs (l : List TRange) {h : Heap} {a : (List TRange × Int)} (e : scansionref02_Make l = some a) :
    Runs CT 41 [.cv (.val (.sl (List.map eRange l)))] h fun o h' => o = [.cv (.val (.sl (List.map eRange a.1))), .cv (.val (.int .i64 a.2))] ∧ h' = h := by
  refine Runs.start Tryz.f41 _ Tryz.func41 rfl (by rw [Tryz.ntmps41]; simp) (by rfl) (by rfl) (fun hwf hu => ?_)
  obtain ⟨D, hD, hr⟩ : ∃ D : (List TRange × Int) → Prop, (∀ z, D z → z = a) ∧ Holds (scansionref02_Make l) D := ⟨fun z => z = a, fun _ h => h, Holds.intro e rfl⟩
  dsimp only [scansionref02_Make] at hr
  change wpCode _ _ _ _ _ ⟨[(0, .cv (.val (.sl (List.map eRange l))))], h.on []⟩
  refine w_seq ?_
  refine A_region ?_
  refine w_n ?_
  refine w_seq ?_
  refine w_seq ?_
  refine A_region ?_
  refine w_n ?_
  refine w_K (D := D) (fun xX : Unit => ⟨[(0, .cv (.val (.sl (List.map eRange l))))], h.on []⟩) (fun xX : Unit => scansionref02_Make.k1 l) (fun xX s' hr ht => ?_) ?_
  · dsimp only [scansionref02_Make.k1] at hr ht
    refine (w_nT ht ?_)
    refine w_seq ?_
    refine A_ops ?_
    refine A_upto 1 ?_
    obtain ⟨r, eF1, hr⟩ := hr.bind
    refine A_call (out := ?o_eF1) (hp := ?p_eF1) ?c_eF1 ?d_eF1 ?_
    case c_eF1 => exact scansionref02_pick_runs l [] (0 : Int) eF1
    case d_eF1 => rfl
    refine A_ops_end ?_
    refine w_n ?_
    refine w_ret ?_
    obtain rfl := hD _ hr
    exact (A_endR (A_cut (os' := []) (sl := [(2, .cv (.val (.sl (List.map eRange r)))), (3, .cv (.val (.int .i64 (0 : Int))))]) hwf) ⟨rfl, on_nil hwf⟩)
  · refine w_block ?_
    refine w_Loop (fun xX : Int => ⟨[(0, .cv (.val (.sl (List.map eRange l)))), (4, .cv (.val (.int .i64 xX)))], h.on []⟩) hr (A_cut hwf) (fun W1 xX hr => ?_)
    obtain ⟨i, rfl⟩ : ∃ z, z = xX := ⟨xX, rfl⟩
    dsimp only [scansionref02_Make.b1] at hr
    refine w_seq ?_
    refine w_seq ?_
    refine A_region ?_
    refine w_n ?_
    refine A_condH hr (fun cF2 hr => ?_) (fun cF2 hr => ?_)
    · refine w_skip ?_
      refine w_n ?_
      refine w_seq ?_
      refine w_block ?_
      obtain ⟨v, vF8, hr⟩ := hr.bind
      refine w_joinR (sj := ⟨[(0, .cv (.val (.sl (List.map eRange l)))), (4, .cv (.val (.int .i64 i))), (37, .cv (.val (.bool v)))], h.on []⟩) (w_drawn [0, 1, 2, 3, 4, 5, 6, 7, 8, 9, 10, 11, 12, 13, 14, 15, 16, 17, 18, 19, 20, 21, 22, 23, 24, 25, 26] (by rfl) ?_) ?_
      · have hr := Holds.intro (D := fun z => z = v) vF8 rfl
        obtain ⟨x, nF3, eF4, gF5, hr⟩ := hr.idx
        refine p_run (l := [0, 1, 2, 3, 4, 5, 6]) (pend' := [6, 5, 4, 3, 2, 1, 0]) (by simp (disch := (apply Apart.mk; decide)) only [go_sem, Nat.reduceAdd, Nat.reduceLT, Nat.reduceMul, Nat.reduceLeDiff, Int.reduceToNat, Int.reduceLT, Int.reduceLE, nF3, eF4, gF5]; rfl) rfl ?_
        rcases hr.ite with ⟨cF6, hr⟩ | ⟨cF6, hr⟩
        · refine p_run (l := [7, 8, 9, 10, 11, 12, 13, 14, 15, 16, 17, 18, 19, 20, 21, 22, 23, 24, 25, 26]) (pend' := [26, 25, 24, 23, 22, 21, 20, 19, 18, 17, 16, 15, 14, 13, 12, 11, 10, 9, 8, 7, 6, 5, 4, 3, 2, 1, 0]) (by simp (disch := (apply Apart.mk; decide)) only [go_sem, Nat.reduceAdd, Nat.reduceLT, Nat.reduceMul, Nat.reduceLeDiff, Int.reduceToNat, Int.reduceLT, Int.reduceLE, nF3, eF4, gF5, cF6]; rfl) rfl ?_
          refine p_end (by simp (disch := (apply Apart.mk; decide)) only [go_sem, Nat.reduceAdd, Nat.reduceLT, Nat.reduceMul, Nat.reduceLeDiff, Int.reduceToNat, Int.reduceLT, Int.reduceLE, nF3, eF4, gF5, cF6]) ?_
          obtain rfl : _ = v := hr
          exact w_k (A_cut hwf)
        · refine p_run (l := [7, 8, 9, 10, 11, 12, 13, 14]) (pend' := [14, 13, 12, 11, 10, 9, 8, 7, 6, 5, 4, 3, 2, 1, 0]) (by simp (disch := (apply Apart.mk; decide)) only [go_sem, Nat.reduceAdd, Nat.reduceLT, Nat.reduceMul, Nat.reduceLeDiff, Int.reduceToNat, Int.reduceLT, Int.reduceLE, nF3, eF4, gF5, cF6]; rfl) rfl ?_
          rcases hr.ite with ⟨cF7, hr⟩ | ⟨cF7, hr⟩
          · refine p_run (l := [15, 16, 17, 18, 19, 20, 21, 22, 23, 24, 25, 26]) (pend' := [26, 25, 24, 23, 22, 21, 20, 19, 18, 17, 16, 15, 14, 13, 12, 11, 10, 9, 8, 7, 6, 5, 4, 3, 2, 1, 0]) (by simp (disch := (apply Apart.mk; decide)) only [go_sem, Nat.reduceAdd, Nat.reduceLT, Nat.reduceMul, Nat.reduceLeDiff, Int.reduceToNat, Int.reduceLT, Int.reduceLE, nF3, eF4, gF5, cF6, cF7]; rfl) rfl ?_
            refine p_end (by simp (disch := (apply Apart.mk; decide)) only [go_sem, Nat.reduceAdd, Nat.reduceLT, Nat.reduceMul, Nat.reduceLeDiff, Int.reduceToNat, Int.reduceLT, Int.reduceLE, nF3, eF4, gF5, cF6, nF3, eF4, gF5, cF7]) ?_
            obtain rfl : _ = v := hr
            exact w_k (A_cut hwf)
          · refine p_run (l := [15, 16, 17, 18, 19, 20, 21, 22, 23, 24, 25, 26]) (pend' := [26, 25, 24, 23, 22, 21, 20, 19, 18, 17, 16, 15, 14, 13, 12, 11, 10, 9, 8, 7, 6, 5, 4, 3, 2, 1, 0]) (by simp (disch := (apply Apart.mk; decide)) only [go_sem, Nat.reduceAdd, Nat.reduceLT, Nat.reduceMul, Nat.reduceLeDiff, Int.reduceToNat, Int.reduceLT, Int.reduceLE, nF3, eF4, gF5, cF6, cF7]; rfl) rfl ?_
            refine p_end (by simp (disch := (apply Apart.mk; decide)) only [go_sem, Nat.reduceAdd, Nat.reduceLT, Nat.reduceMul, Nat.reduceLeDiff, Int.reduceToNat, Int.reduceLT, Int.reduceLE, nF3, eF4, gF5, cF6, nF3, eF4, gF5, cF7, nF3, eF4, gF5, nF3, eF4, gF5]) ?_
            obtain rfl : _ = v := hr
            exact w_k (A_cut hwf)
      refine A_condH hr (fun cF9 hr => ?_) (fun cF9 hr => ?_)
      · refine w_seq ?_
        refine A_region ?_
        refine w_n ?_
        refine w_ret ?_
        obtain rfl := hD _ hr
        exact (w_br (w_tr (w_tr (w_br (w_tr (w_tr (A_endR (A_cut (os' := []) (sl := [(2, .cv (.val (.sl (List.map eRange ([] : List TRange))))), (3, .cv (.val (.int .i64 (1 : Int))))]) hwf) ⟨rfl, on_nil hwf⟩)))))))
      · refine w_skip ?_
        refine (w_bn (w_n ?_))
        refine A_region ?_
        exact (w_k ⟨(IntKind.i64.wrap (i + (1 : Int))), hr, (A_cut hwf)⟩)
    · refine w_exit ?_
      exact (w_te (w_te (w_bx (w_k ⟨(), (hr).map, (A_cut hwf)⟩))))
end Go.Val

/- part KW28 -/
/- scansion/scansionref02.Same runs as it is read off. -/
namespace Go.Val
set_option linter.unusedVariables false
set_option linter.unusedSimpArgs false
set_option maxRecDepth 20000
open Go.Proofs
theorem scansionref02_Same_runs (a_ : List TRange) (b : List TRange) {h : Heap} {a : Bool} (e : scansionref02_Same a_ b = some a) :
    Runs CT 28 [.cv (.val (.sl (List.map eRange a_))), .cv (.val (.sl (List.map eRange b)))] h fun o h' => o = [.cv (.val (.bool a))] ∧ h' = h := by
  refine Runs.start Tryz.f28 _ Tryz.func28 rfl (by rw [Tryz.ntmps28]; simp) (by rfl) (by rfl) (fun hwf hu => ?_)
  obtain ⟨D, hD, hr⟩ : ∃ D : Bool → Prop, (∀ z, D z → z = a) ∧ Holds (scansionref02_Same a_ b) D := ⟨fun z => z = a, fun _ h => h, Holds.intro e rfl⟩
  dsimp only [scansionref02_Same] at hr
  change wpCode _ _ _ _ _ ⟨[(0, .cv (.val (.sl (List.map eRange a_)))), (1, .cv (.val (.sl (List.map eRange b))))], h.on []⟩
  refine w_seq ?_
  refine A_region ?_
  refine w_n ?_
  refine w_seq ?_
  refine w_seq ?_
  refine A_region ?_
  refine w_n ?_
  refine A_condH hr (fun cF1 hr => ?_) (fun cF1 hr => ?_)
  · refine w_seq ?_
    refine A_region ?_
    refine w_n ?_
    refine w_ret ?_
    obtain rfl := hD _ hr
    exact (w_tr (A_endR (A_cut (os' := []) (sl := [(4, .cv (.val (.bool false)))]) hwf) ⟨rfl, on_nil hwf⟩))
  · refine w_skip ?_
    refine w_n ?_
    refine w_seq ?_
    refine w_seq ?_
    refine A_region ?_
    refine w_n ?_
    refine w_K (D := D) (fun xX : Unit => ⟨[], h.on []⟩) (fun xX : Unit => scansionref02_Same.k1) (fun xX s' hr ht => ?_) ?_
    · dsimp only [scansionref02_Same.k1] at hr ht
      refine (w_nT ht ?_)
      refine w_seq ?_
      refine A_region ?_
      refine w_n ?_
      refine w_ret ?_
      obtain rfl := hD _ hr
      exact (A_endR (A_cut (os' := []) (sl := [(4, .cv (.val (.bool true)))]) hwf) ⟨rfl, on_nil hwf⟩)
    · refine w_block ?_
      refine w_Loop (fun xX : Int => ⟨[(0, .cv (.val (.sl (List.map eRange a_)))), (1, .cv (.val (.sl (List.map eRange b)))), (5, .cv (.val (.int .i64 xX)))], h.on []⟩) hr (A_cut hwf) (fun W1 xX hr => ?_)
      obtain ⟨i, rfl⟩ : ∃ z, z = xX := ⟨xX, rfl⟩
      dsimp only [scansionref02_Same.b1] at hr
      refine w_seq ?_
      refine w_seq ?_
      refine A_region ?_
      refine w_n ?_
      refine A_condH hr (fun cF2 hr => ?_) (fun cF2 hr => ?_)
      · refine w_skip ?_
        refine w_n ?_
        refine w_seq ?_
        refine w_block ?_
        refine w_seq ?_
        refine w_drawn [0, 1, 2, 3, 4, 5, 6, 7, 8] (by rfl) ?_
        obtain ⟨x, nF3, eF4, gF5, hr⟩ := hr.idx
        obtain ⟨x1, nF6, eF7, gF8, hr⟩ := hr.idx
        refine p_run (l := [0, 1, 2, 3, 4, 5, 6, 7, 8]) (pend' := [8, 7, 6, 5, 4, 3, 2, 1, 0]) (by simp (disch := (apply Apart.mk; decide)) only [go_sem, Nat.reduceAdd, Nat.reduceLT, Nat.reduceMul, Nat.reduceLeDiff, Int.reduceToNat, Int.reduceLT, Int.reduceLE, nF3, eF4, gF5, nF6, eF7, gF8]; rfl) rfl ?_
        refine p_end (by simp (disch := (apply Apart.mk; decide)) only [go_sem, Nat.reduceAdd, Nat.reduceLT, Nat.reduceMul, Nat.reduceLeDiff, Int.reduceToNat, Int.reduceLT, Int.reduceLE, nF3, eF4, gF5, nF6, eF7, gF8]) ?_
        refine w_n ?_
        refine A_condH hr (fun cF9 hr => ?_) (fun cF9 hr => ?_)
        · refine w_seq ?_
          refine A_region ?_
          refine w_n ?_
          refine w_ret ?_
          obtain rfl := hD _ hr
          exact (w_br (w_tr (w_tr (w_br (w_tr (w_tr (A_endR (A_cut (os' := []) (sl := [(4, .cv (.val (.bool false)))]) hwf) ⟨rfl, on_nil hwf⟩)))))))
        · refine w_skip ?_
          refine (w_bn (w_n ?_))
          refine A_region ?_
          exact (w_k ⟨(IntKind.i64.wrap (i + (1 : Int))), hr, (A_cut hwf)⟩)
      · refine w_exit ?_
        exact (w_te (w_te (w_bx (w_k ⟨(), (hr).map, (A_cut hwf)⟩))))
end Go.Val

/- part KW19 -/
/- scansion/scansionref08.sets runs as it is read off. -/
namespace Go.Val
set_option linter.unusedVariables false
set_option linter.unusedSimpArgs false
set_option maxRecDepth 20000
open Go.Proofs
theorem scansionref08_sets_runs (l : List (List TRange)) {h : Heap} {a : Bool} (e : scansionref08_sets l = some a) :
    Runs CT 19 [.cv (.val (.sl (List.map (eL eRange) l)))] h fun o h' => o = [.cv (.val (.bool a))] ∧ h' = h := by
  refine Runs.start Tryz.f19 _ Tryz.func19 rfl (by rw [Tryz.ntmps19]; simp) (by rfl) (by rfl) (fun hwf hu => ?_)
  obtain ⟨D, hD, hr⟩ : ∃ D : Bool → Prop, (∀ z, D z → z = a) ∧ Holds (scansionref08_sets l) D := ⟨fun z => z = a, fun _ h => h, Holds.intro e rfl⟩
  dsimp only [scansionref08_sets] at hr
  change wpCode _ _ _ _ _ ⟨[(0, .cv (.val (.sl (List.map (eL eRange) l))))], h.on []⟩
  refine w_seq ?_
  refine A_region ?_
  refine w_n ?_
  refine w_seq ?_
  refine w_seq ?_
  refine A_region ?_
  refine w_n ?_
  refine w_K (D := D) (fun xX : Unit => ⟨[], h.on []⟩) (fun xX : Unit => scansionref08_sets.k1) (fun xX s' hr ht => ?_) ?_
  · dsimp only [scansionref08_sets.k1] at hr ht
    refine (w_nT ht ?_)
    refine w_seq ?_
    refine A_region ?_
    refine w_n ?_
    refine w_ret ?_
    obtain rfl := hD _ hr
    exact (A_endR (A_cut (os' := []) (sl := [(2, .cv (.val (.bool true)))]) hwf) ⟨rfl, on_nil hwf⟩)
  · refine w_block ?_
    refine w_Loop (fun xX : Int => ⟨[(0, .cv (.val (.sl (List.map (eL eRange) l)))), (3, .cv (.val (.int .i64 xX)))], h.on []⟩) hr (A_cut hwf) (fun W1 xX hr => ?_)
    obtain ⟨i, rfl⟩ : ∃ z, z = xX := ⟨xX, rfl⟩
    dsimp only [scansionref08_sets.b1] at hr
    refine w_seq ?_
    refine w_seq ?_
    refine A_region ?_
    refine w_n ?_
    refine A_condH hr (fun cF1 hr => ?_) (fun cF1 hr => ?_)
    · refine w_skip ?_
      refine w_n ?_
      refine w_seq ?_
      refine w_K (D := (Aft W1 D)) (fun xX : Unit => ⟨[(0, .cv (.val (.sl (List.map (eL eRange) l)))), (3, .cv (.val (.int .i64 i)))], h.on []⟩) (fun xX : Unit => scansionref08_sets.k2 i) (fun xX s' hr ht => ?_) ?_
      · dsimp only [scansionref08_sets.k2] at hr ht
        refine (w_nT ht ?_)
        refine A_region ?_
        exact (w_k ⟨(IntKind.i64.wrap (i + (1 : Int))), hr, (A_cut hwf)⟩)
      · refine w_block ?_
        refine w_seq ?_
        refine A_ops ?_
        obtain ⟨xs, nF2, eF3, gF4, hr⟩ := hr.idx
        refine A_upto 4 ?_
        obtain ⟨r, eF5, hr⟩ := hr.bind
        refine A_call (out := ?o_eF5) (hp := ?p_eF5) ?c_eF5 ?d_eF5 ?_
        case c_eF5 => exact scansionref02_Make_runs xs eF5
        case d_eF5 => rfl
        refine A_ops_end ?_
        refine w_n ?_
        refine w_seq ?_
        refine A_ops ?_
        refine A_upto 5 ?_
        obtain ⟨r1, eF6, hr⟩ := hr.bind
        refine A_call (out := ?o_eF6) (hp := ?p_eF6) ?c_eF6 ?d_eF6 ?_
        case c_eF6 => exact scansionref02_Same_runs r.1 xs eF6
        case d_eF6 => rfl
        refine A_ops_end ?_
        refine w_n ?_
        refine w_seq ?_
        refine w_joinR (sj := ⟨[(0, .cv (.val (.sl (List.map (eL eRange) l)))), (3, .cv (.val (.int .i64 i))), (34, .cv (.val (.bool ((r.2 != (0 : Int)) || (!r1)))))], h.on []⟩) (A_ops ?_) ?_
        · refine A_upto 3 ?_
          rcases Bool.eq_false_or_eq_true (r.2 != (0 : Int)) with cF7 | cF7
          · refine A_ops_end ?_
            exact w_k (A_cut hwf)
          · refine A_ops_end ?_
            exact w_k (A_cut hwf)
        refine A_condH hr (fun cF8 hr => ?_) (fun cF8 hr => ?_)
        · refine w_seq ?_
          refine A_region ?_
          refine w_n ?_
          refine w_ret ?_
          obtain rfl := hD _ hr
          exact (w_tr (w_br (w_tr (w_tr (w_tr (w_br (w_tr (w_tr (A_endR (A_cut (os' := []) (sl := [(2, .cv (.val (.bool false)))]) hwf) ⟨rfl, on_nil hwf⟩)))))))))
        · refine w_skip ?_
          refine w_n ?_
          refine w_seq ?_
          refine A_region ?_
          refine w_n ?_
          refine w_block ?_
          refine w_Loop (fun xX : Int => ⟨[(0, .cv (.val (.sl (List.map (eL eRange) l)))), (3, .cv (.val (.int .i64 i))), (7, .cv (.val (.int .i64 xX)))], h.on []⟩) hr (A_cut hwf) (fun W2 xX hr => ?_)
          obtain ⟨k, rfl⟩ : ∃ z, z = xX := ⟨xX, rfl⟩
          dsimp only [scansionref08_sets.b2] at hr
          refine w_seq ?_
          refine w_seq ?_
          refine A_region ?_
          refine w_n ?_
          refine A_condH hr (fun cF9 hr => ?_) (fun cF9 hr => ?_)
          · refine w_skip ?_
            refine w_n ?_
            refine w_seq ?_
            refine w_block ?_
            refine w_seq ?_
            refine w_drawn [0, 1, 2, 3, 4, 5, 6, 7, 8, 9] (by rfl) ?_
            obtain ⟨xs1, nF10, eF11, gF12, hr⟩ := hr.idx
            refine p_run (l := [0, 1, 2, 3, 4, 5, 6, 7]) (pend' := [7, 6, 5, 4, 3, 2, 1, 0]) (by simp (disch := (apply Apart.mk; decide)) only [go_sem, Nat.reduceAdd, Nat.reduceLT, Nat.reduceMul, Nat.reduceLeDiff, Int.reduceToNat, Int.reduceLT, Int.reduceLE, nF10, eF11, gF12, nF2, eF3, gF4]; rfl) rfl ?_
            obtain ⟨r2, eF13, hr⟩ := hr.bind
            refine p_call (out := ?o_eF13) (hp := ?p_eF13) (pend' := []) rfl (by simp (disch := (apply Apart.mk; decide)) only [go_sem, Nat.reduceAdd, Nat.reduceLT, Nat.reduceMul, Nat.reduceLeDiff, Int.reduceToNat, Int.reduceLT, Int.reduceLE, Option.getD_some, nF10, eF11, gF12, nF2, eF3, gF4]) rfl (by simp (disch := (apply Apart.mk; decide)) only [go_sem, Nat.reduceAdd, Nat.reduceLT, Nat.reduceMul, Nat.reduceLeDiff, Int.reduceToNat, Int.reduceLT, Int.reduceLE, Option.getD_some, nF10, eF11, gF12, nF2, eF3, gF4]; rfl) (by simp (disch := (apply Apart.mk; decide)) only [go_sem, Nat.reduceAdd, Nat.reduceLT, Nat.reduceMul, Nat.reduceLeDiff, Int.reduceToNat, Int.reduceLT, Int.reduceLE, Option.getD_some, nF10, eF11, gF12, nF2, eF3, gF4]; rfl) (by simp (disch := (apply Apart.mk; decide)) only [go_sem, Nat.reduceAdd, Nat.reduceLT, Nat.reduceMul, Nat.reduceLeDiff, Int.reduceToNat, Int.reduceLT, Int.reduceLE, Option.getD_some, nF10, eF11, gF12, nF2, eF3, gF4]; rfl) (by rfl) ?c_eF13 ?d_eF13 ?_
            case c_eF13 => exact scansionref02_Same_runs xs1 xs eF13
            case d_eF13 => rfl
            refine p_op (pend' := []) rfl (by simp (disch := (apply Apart.mk; decide)) only [go_sem, Nat.reduceAdd, Nat.reduceLT, Nat.reduceMul, Nat.reduceLeDiff, Int.reduceToNat, Int.reduceLT, Int.reduceLE, nF10, eF11, gF12, nF2, eF3, gF4]) (by simp (disch := (apply Apart.mk; decide)) only [go_sem, Nat.reduceAdd, Nat.reduceLT, Nat.reduceMul, Nat.reduceLeDiff, Int.reduceToNat, Int.reduceLT, Int.reduceLE, nF10, eF11, gF12, nF2, eF3, gF4]; rfl) (by rfl) ?_
            refine p_end (by simp (disch := (apply Apart.mk; decide)) only [go_sem, Nat.reduceAdd, Nat.reduceLT, Nat.reduceMul, Nat.reduceLeDiff, Int.reduceToNat, Int.reduceLT, Int.reduceLE, nF10, eF11, gF12, nF2, eF3, gF4]) ?_
            refine w_n ?_
            refine w_seq ?_
            refine A_region ?_
            refine w_n ?_
            refine A_condH hr (fun cF14 hr => ?_) (fun cF14 hr => ?_)
            · refine w_seq ?_
              refine A_region ?_
              refine w_n ?_
              refine w_ret ?_
              obtain rfl := hD _ hr
              exact (w_br (w_tr (w_tr (w_br (w_br (w_tr (w_tr (w_tr (w_br (w_tr (w_tr (A_endR (A_cut (os' := []) (sl := [(2, .cv (.val (.bool false)))]) hwf) ⟨rfl, on_nil hwf⟩))))))))))))
            · refine w_skip ?_
              refine (w_bn (w_n ?_))
              refine A_region ?_
              exact (w_k ⟨(IntKind.i64.wrap (k + (1 : Int))), hr, (A_cut hwf)⟩)
          · refine w_exit ?_
            exact (w_te (w_te (w_bx (w_bn (w_k ⟨(), (hr).map, (A_cut hwf)⟩)))))
    · refine w_exit ?_
      exact (w_te (w_te (w_bx (w_k ⟨(), (hr).map, (A_cut hwf)⟩))))
end Go.Val

/- part KW42 -/
/- scansion/scansionref08.signed runs as it is read off. -/
namespace Go.Val
set_option linter.unusedVariables false
set_option linter.unusedSimpArgs false
set_option maxRecDepth 20000
open Go.Proofs
theorem scansionref08_signed_runs (n : TNode) {h : Heap} {a : Bool} (e : scansionref08_signed n = some a) :
    Runs CT 42 [.cv (.val (.agg [.int .i64 n.Kind, .int .i64 n.Set, .sl (List.map eNode n.Kids)]))] h fun o h' => o = [.cv (.val (.bool a))] ∧ h' = h := by
  refine Runs.start Tryz.f42 _ Tryz.func42 rfl (by rw [Tryz.ntmps42]; simp) (by rfl) (by rfl) (fun hwf hu => ?_)
  obtain ⟨D, hD, hr⟩ : ∃ D : Bool → Prop, (∀ z, D z → z = a) ∧ Holds (scansionref08_signed n) D := ⟨fun z => z = a, fun _ h => h, Holds.intro e rfl⟩
  dsimp only [scansionref08_signed] at hr
  change wpCode _ _ _ _ _ ⟨[(0, .cv (.val (.agg [.int .i64 n.Kind, .int .i64 n.Set, .sl (List.map eNode n.Kids)])))], h.on []⟩
  refine w_seq ?_
  refine A_region ?_
  refine w_n ?_
  refine w_joinR (sj := ⟨[(2, .cv (.val (.bool ((n.Kind == (3 : Int)) || ((n.Kind == (4 : Int)) || (n.Kind == (5 : Int)))))))], h.on []⟩) (A_ops ?_) ?_
  · refine A_upto 4 ?_
    rcases Bool.eq_false_or_eq_true (n.Kind == (3 : Int)) with cF1 | cF1
    · refine A_ops_end ?_
      exact w_k (A_cut hwf)
    · refine A_upto 5 ?_
      rcases Bool.eq_false_or_eq_true (n.Kind == (4 : Int)) with cF2 | cF2
      · refine A_ops_end ?_
        exact w_k (A_cut hwf)
      · refine A_ops_end ?_
        exact w_k (A_cut hwf)
  refine w_ret ?_
  obtain rfl := hD _ hr
  exact (A_endR (A_cut (os' := []) (sl := [(2, .cv (.val (.bool ((n.Kind == (3 : Int)) || ((n.Kind == (4 : Int)) || (n.Kind == (5 : Int)))))))]) hwf) ⟨rfl, on_nil hwf⟩)
end Go.Val

/- part KW33 -/
/- scansion/scansionref08.open runs as it is read off. -/
namespace Go.Val
set_option linter.unusedVariables false
set_option linter.unusedSimpArgs false
set_option maxRecDepth 20000
open Go.Proofs
theorem scansionref08_open_runs (of : TNode) (n : TNode) {h : Heap} {a : Bool} (e : scansionref08_open of n = some a) :
    Runs CT 33 [.cv (.val (.agg [.int .i64 of.Kind, .int .i64 of.Set, .sl (List.map eNode of.Kids)])), .cv (.val (.agg [.int .i64 n.Kind, .int .i64 n.Set, .sl (List.map eNode n.Kids)]))] h fun o h' => o = [.cv (.val (.bool a))] ∧ h' = h := by
  refine Runs.start Tryz.f33 _ Tryz.func33 rfl (by rw [Tryz.ntmps33]; simp) (by rfl) (by rfl) (fun hwf hu => ?_)
  obtain ⟨D, hD, hr⟩ : ∃ D : Bool → Prop, (∀ z, D z → z = a) ∧ Holds (scansionref08_open of n) D := ⟨fun z => z = a, fun _ h => h, Holds.intro e rfl⟩
  dsimp only [scansionref08_open] at hr
  change wpCode _ _ _ _ _ ⟨[(0, .cv (.val (.agg [.int .i64 of.Kind, .int .i64 of.Set, .sl (List.map eNode of.Kids)]))), (1, .cv (.val (.agg [.int .i64 n.Kind, .int .i64 n.Set, .sl (List.map eNode n.Kids)])))], h.on []⟩
  refine w_seq ?_
  refine A_region ?_
  refine w_n ?_
  refine w_seq ?_
  refine w_seq ?_
  refine A_region ?_
  refine w_n ?_
  refine A_condH hr (fun cF1 hr => ?_) (fun cF1 hr => ?_)
  · refine w_seq ?_
    refine A_region ?_
    refine w_n ?_
    refine w_ret ?_
    obtain rfl := hD _ hr
    exact (w_tr (A_endR (A_cut (os' := []) (sl := [(4, .cv (.val (.bool (n.Kind == (2 : Int)))))]) hwf) ⟨rfl, on_nil hwf⟩))
  · refine w_skip ?_
    refine w_n ?_
    refine w_joinR (sj := ⟨[(4, .cv (.val (.bool ((n.Kind == (2 : Int)) || (n.Kind == (0 : Int))))))], h.on []⟩) (A_ops ?_) ?_
    · refine A_upto 4 ?_
      rcases Bool.eq_false_or_eq_true (n.Kind == (2 : Int)) with cF2 | cF2
      · refine A_ops_end ?_
        exact w_k (A_cut hwf)
      · refine A_ops_end ?_
        exact w_k (A_cut hwf)
    refine w_ret ?_
    obtain rfl := hD _ hr
    exact (A_endR (A_cut (os' := []) (sl := [(4, .cv (.val (.bool ((n.Kind == (2 : Int)) || (n.Kind == (0 : Int))))))]) hwf) ⟨rfl, on_nil hwf⟩)
end Go.Val

/- part KW20 -/
/- scansion/scansionref08.form runs as it is read off. -/
namespace Go.Val
set_option linter.unusedVariables false
set_option linter.unusedSimpArgs false
set_option maxRecDepth 20000
open Go.Proofs
theorem scansionref08_form_runs_r : ∀ (fu : Nat) (n : TNode) (depth : Int) (signs : Int) (sets : Int) {h : Heap} {a : Bool} (e : scansionref08_form.r fu n depth signs sets = some a),
    Runs CT 20 [.cv (.val (.agg [.int .i64 n.Kind, .int .i64 n.Set, .sl (List.map eNode n.Kids)])), .cv (.val (.int .i64 depth)), .cv (.val (.int .i64 signs)), .cv (.val (.int .i64 sets))] h fun o h' => o = [.cv (.val (.bool a))] ∧ h' = h := by
  intro fu
  induction fu with
  | zero => intros; rename_i e; simp [scansionref08_form.r] at e
  | succ fu ih =>
    intro n depth signs sets h a e
    refine Runs.start Tryz.f20 _ Tryz.func20 rfl (by rw [Tryz.ntmps20]; simp) (by rfl) (by rfl) (fun hwf hu => ?_)
    obtain ⟨D, hD, hr⟩ : ∃ D : Bool → Prop, (∀ z, D z → z = a) ∧ Holds (scansionref08_form.r (fu + 1) n depth signs sets) D := ⟨fun z => z = a, fun _ h => h, Holds.intro e rfl⟩
    dsimp only [scansionref08_form.r] at hr
    change wpCode _ _ _ _ _ ⟨[(0, .cv (.val (.agg [.int .i64 n.Kind, .int .i64 n.Set, .sl (List.map eNode n.Kids)]))), (1, .cv (.val (.int .i64 depth))), (2, .cv (.val (.int .i64 signs))), (3, .cv (.val (.int .i64 sets)))], h.on []⟩
    refine w_seq ?_
    refine A_region ?_
    refine w_n ?_
    refine w_seq ?_
    refine A_region ?_
    refine w_n ?_
    refine w_seq ?_
    refine w_K (D := D) (fun xX : Int => ⟨[(1, .cv (.val (.int .i64 depth))), (2, .cv (.val (.int .i64 xX))), (3, .cv (.val (.int .i64 sets))), (4, .cv (.val (.ptr (some (h.n + 0, 0))))), (9, .cv (.val (.int .i64 (n.Kids.length : Int))))], h.on [some (.cells [.val (.int .i64 n.Kind), .val (.int .i64 n.Set), .val (.sl (List.map eNode n.Kids))])]⟩) (fun xX : Int => scansionref08_form.k1 (scansionref08_form.r fu) n depth sets xX) (fun xX s' hr ht => ?_) ?_
    · obtain ⟨signs1, rfl⟩ : ∃ z, z = xX := ⟨xX, rfl⟩
      dsimp only [scansionref08_form.k1] at hr ht
      refine (w_nT ht ?_)
      refine w_seq ?_
      refine w_seq ?_
      refine A_ops ?_
      refine A_upto 1 ?_
      obtain ⟨r, eF1, hr⟩ := hr.bind
      refine A_call (out := ?o_eF1) (hp := ?p_eF1) ?c_eF1 ?d_eF1 ?_
      case c_eF1 => exact scansionref08_signed_runs n eF1
      case d_eF1 => rfl
      refine A_ops_end ?_
      refine w_n ?_
      refine w_K (D := D) (fun xX : Int => ⟨[(1, .cv (.val (.int .i64 depth))), (2, .cv (.val (.int .i64 xX))), (3, .cv (.val (.int .i64 sets))), (4, .cv (.val (.ptr (some (h.n + 0, 0))))), (9, .cv (.val (.int .i64 (n.Kids.length : Int))))], h.on [some (.cells [.val (.int .i64 n.Kind), .val (.int .i64 n.Set), .val (.sl (List.map eNode n.Kids))])]⟩) (fun xX : Int => scansionref08_form.k2 (scansionref08_form.r fu) n depth sets xX) (fun xX s' hr ht => ?_) ?_
      · obtain ⟨signs2, rfl⟩ : ∃ z, z = xX := ⟨xX, rfl⟩
        dsimp only [scansionref08_form.k2] at hr ht
        refine (w_nT ht ?_)
        refine w_seq ?_
        refine w_seq ?_
        refine A_region ?_
        refine w_n ?_
        refine w_K (D := D) (fun xX : Unit => ⟨[], h.on []⟩) (fun xX : Unit => scansionref08_form.k3) (fun xX s' hr ht => ?_) ?_
        · dsimp only [scansionref08_form.k3] at hr ht
          refine (w_nT ht ?_)
          refine w_seq ?_
          refine A_region ?_
          refine w_n ?_
          refine w_ret ?_
          obtain rfl := hD _ hr
          exact (A_endR (A_cut (os' := []) (sl := [(8, .cv (.val (.bool true)))]) hwf) ⟨rfl, on_nil hwf⟩)
        · refine w_block ?_
          refine w_Loop (fun xX : Int => ⟨[(1, .cv (.val (.int .i64 depth))), (2, .cv (.val (.int .i64 signs2))), (3, .cv (.val (.int .i64 sets))), (4, .cv (.val (.ptr (some (h.n + 0, 0))))), (9, .cv (.val (.int .i64 (n.Kids.length : Int)))), (10, .cv (.val (.int .i64 xX)))], h.on [some (.cells [.val (.int .i64 n.Kind), .val (.int .i64 n.Set), .val (.sl (List.map eNode n.Kids))])]⟩) hr (A_cut hwf) (fun W1 xX hr => ?_)
          obtain ⟨i, rfl⟩ : ∃ z, z = xX := ⟨xX, rfl⟩
          dsimp only [scansionref08_form.b1] at hr
          refine w_seq ?_
          refine w_seq ?_
          refine A_region ?_
          refine w_n ?_
          refine A_condH hr (fun cF2 hr => ?_) (fun cF2 hr => ?_)
          · refine w_skip ?_
            refine w_n ?_
            refine w_seq ?_
            refine w_block ?_
            refine w_seq ?_
            refine A_region ?_
            refine w_n ?_
            refine w_seq ?_
            refine w_seq ?_
            refine w_drawn [0, 1, 2, 3, 4, 5, 6] (by rfl) ?_
            obtain ⟨x, nF3, eF4, gF5, hr⟩ := hr.idx
            refine p_run (l := [0, 1, 2, 3, 4, 5]) (pend' := [5, 4, 3, 2, 1, 0]) (by simp (disch := (apply Apart.mk; decide)) only [go_sem, Nat.reduceAdd, Nat.reduceLT, Nat.reduceMul, Nat.reduceLeDiff, Int.reduceToNat, Int.reduceLT, Int.reduceLE, nF3, eF4, gF5]; rfl) rfl ?_
            obtain ⟨r1, eF6, hr⟩ := hr.bind
            refine p_call (out := ?o_eF6) (hp := ?p_eF6) (pend' := []) rfl (by simp (disch := (apply Apart.mk; decide)) only [go_sem, Nat.reduceAdd, Nat.reduceLT, Nat.reduceMul, Nat.reduceLeDiff, Int.reduceToNat, Int.reduceLT, Int.reduceLE, Option.getD_some, nF3, eF4, gF5]) rfl (by simp (disch := (apply Apart.mk; decide)) only [go_sem, Nat.reduceAdd, Nat.reduceLT, Nat.reduceMul, Nat.reduceLeDiff, Int.reduceToNat, Int.reduceLT, Int.reduceLE, Option.getD_some, nF3, eF4, gF5]; rfl) (by simp (disch := (apply Apart.mk; decide)) only [go_sem, Nat.reduceAdd, Nat.reduceLT, Nat.reduceMul, Nat.reduceLeDiff, Int.reduceToNat, Int.reduceLT, Int.reduceLE, Option.getD_some, nF3, eF4, gF5]; rfl) (by simp (disch := (apply Apart.mk; decide)) only [go_sem, Nat.reduceAdd, Nat.reduceLT, Nat.reduceMul, Nat.reduceLeDiff, Int.reduceToNat, Int.reduceLT, Int.reduceLE, Option.getD_some, nF3, eF4, gF5]; rfl) (by rfl) ?c_eF6 ?d_eF6 ?_
            case c_eF6 => exact scansionref08_open_runs n x eF6
            case d_eF6 => rfl
            refine p_end (by simp (disch := (apply Apart.mk; decide)) only [go_sem, Nat.reduceAdd, Nat.reduceLT, Nat.reduceMul, Nat.reduceLeDiff, Int.reduceToNat, Int.reduceLT, Int.reduceLE, nF3, eF4, gF5]) ?_
            refine w_n ?_
            refine w_K (D := (Aft W1 D)) (fun xX : Int => ⟨[(1, .cv (.val (.int .i64 depth))), (2, .cv (.val (.int .i64 signs2))), (3, .cv (.val (.int .i64 sets))), (4, .cv (.val (.ptr (some (h.n + 0, 0))))), (9, .cv (.val (.int .i64 (n.Kids.length : Int)))), (10, .cv (.val (.int .i64 i))), (11, .cv (.val (.int .i64 xX)))], h.on [some (.cells [.val (.int .i64 n.Kind), .val (.int .i64 n.Set), .val (.sl (List.map eNode n.Kids))])]⟩) (fun xX : Int => scansionref08_form.k4 (scansionref08_form.r fu) sets signs2 i x xX) (fun xX s' hr ht => ?_) ?_
            · obtain ⟨more, rfl⟩ : ∃ z, z = xX := ⟨xX, rfl⟩
              dsimp only [scansionref08_form.k4] at hr ht
              refine (w_nT ht ?_)
              refine w_seq ?_
              refine w_seq ?_
              refine A_region ?_
              refine w_n ?_
              refine A_condH hr (fun cF7 hr => ?_) (fun cF7 hr => ?_)
              · refine w_seq ?_
                refine A_region ?_
                refine w_n ?_
                refine w_ret ?_
                obtain rfl := hD _ hr
                exact (w_tr (w_br (w_tr (w_tr (w_br (w_tr (w_tr (A_endR (A_cut (os' := []) (sl := [(8, .cv (.val (.bool false)))]) hwf) ⟨rfl, on_nil hwf⟩))))))))
              · refine w_skip ?_
                refine w_n ?_
                refine w_seq ?_
                refine A_ops ?_
                refine A_upto 8 ?_
                obtain ⟨r2, eF8, hr⟩ := hr.bind
                refine A_call (out := ?o_eF8) (hp := ?p_eF8) ?c_eF8 ?d_eF8 ?_
                case c_eF8 => exact ih x more signs2 sets eF8
                case d_eF8 => rfl
                refine A_ops_end ?_
                refine w_n ?_
                refine w_seq ?_
                refine A_region ?_
                refine w_n ?_
                refine A_condH hr (fun cF9 hr => ?_) (fun cF9 hr => ?_)
                · refine w_seq ?_
                  refine A_region ?_
                  refine w_n ?_
                  refine w_ret ?_
                  obtain rfl := hD _ hr
                  exact (w_br (w_tr (w_tr (w_br (w_tr (w_tr (A_endR (A_cut (os' := []) (sl := [(8, .cv (.val (.bool false)))]) hwf) ⟨rfl, on_nil hwf⟩)))))))
                · refine w_skip ?_
                  refine (w_bn (w_n ?_))
                  refine A_region ?_
                  exact (w_k ⟨(IntKind.i64.wrap (i + (1 : Int))), hr, (A_cut hwf)⟩)
            · refine A_condH hr (fun cF10 hr => ?_) (fun cF10 hr => ?_)
              · refine A_region ?_
                exact (w_k ⟨(IntKind.i64.wrap (depth + (1 : Int))), hr, (A_cut hwf)⟩)
              · refine w_skip ?_
                exact (w_k ⟨depth, hr, (A_cut hwf)⟩)
          · refine w_exit ?_
            exact (w_te (w_te (w_bx (w_k ⟨(), (hr).map, (A_cut hwf)⟩))))
      · refine A_condH hr (fun cF11 hr => ?_) (fun cF11 hr => ?_)
        · refine A_region ?_
          exact (w_k ⟨(0 : Int), hr, (A_cut hwf)⟩)
        · refine w_skip ?_
          exact (w_k ⟨signs1, hr, (A_cut hwf)⟩)
    · refine w_block ?_
      refine w_seq ?_
      refine A_region ?_
      refine w_n ?_
      refine A_condH hr (fun cF12 hr => ?_) (fun cF12 hr => ?_)
      · refine w_joinR (sj := ⟨[(8, .cv (.val (.bool (((n.Kids.length : Int) == (0 : Int)) && ((decide (n.Set ≥ (0 : Int))) && (decide (n.Set < sets)))))))], h.on []⟩) (A_ops ?_) ?_
        · refine A_upto 3 ?_
          rcases Bool.eq_false_or_eq_true ((n.Kids.length : Int) == (0 : Int)) with cF13 | cF13
          · refine A_upto 5 ?_
            rcases Bool.eq_false_or_eq_true (decide (n.Set ≥ (0 : Int))) with cF14 | cF14
            · refine A_ops_end ?_
              exact w_k (A_cut hwf)
            · refine A_ops_end ?_
              exact w_k (A_cut hwf)
          · refine A_ops_end ?_
            exact w_k (A_cut hwf)
        refine w_ret ?_
        obtain rfl := hD _ hr
        exact (w_br (w_tr (w_tr (A_endR (A_cut (os' := []) (sl := [(8, .cv (.val (.bool (((n.Kids.length : Int) == (0 : Int)) && ((decide (n.Set ≥ (0 : Int))) && (decide (n.Set < sets)))))))]) hwf) ⟨rfl, on_nil hwf⟩))))
      · refine w_seq ?_
        refine A_region ?_
        refine w_n ?_
        refine A_condH hr (fun cF15 hr => ?_) (fun cF15 hr => ?_)
        · refine w_seq ?_
          refine A_region ?_
          refine w_n ?_
          refine w_ret ?_
          obtain rfl := hD _ hr
          exact (w_br (w_tr (w_tr (A_endR (A_cut (os' := []) (sl := [(8, .cv (.val (.bool false)))]) hwf) ⟨rfl, on_nil hwf⟩))))
        · refine w_seq ?_
          refine A_region ?_
          refine w_n ?_
          refine A_condH hr (fun cF16 hr => ?_) (fun cF16 hr => ?_)
          · refine w_seq ?_
            refine A_region ?_
            refine w_n ?_
            refine A_condH hr (fun cF17 hr => ?_) (fun cF17 hr => ?_)
            · refine w_seq ?_
              refine A_region ?_
              refine w_n ?_
              refine w_ret ?_
              obtain rfl := hD _ hr
              exact (w_br (w_tr (w_tr (A_endR (A_cut (os' := []) (sl := [(8, .cv (.val (.bool false)))]) hwf) ⟨rfl, on_nil hwf⟩))))
            · refine w_skip ?_
              exact (w_bn (w_k ⟨signs, hr, (A_cut hwf)⟩))
          · refine w_seq ?_
            refine A_region ?_
            refine w_n ?_
            refine A_condH hr (fun cF18 hr => ?_) (fun cF18 hr => ?_)
            · refine w_seq ?_
              refine A_region ?_
              refine w_n ?_
              refine A_condH hr (fun cF19 hr => ?_) (fun cF19 hr => ?_)
              · refine w_seq ?_
                refine A_region ?_
                refine w_n ?_
                refine w_ret ?_
                obtain rfl := hD _ hr
                exact (w_br (w_tr (w_tr (A_endR (A_cut (os' := []) (sl := [(8, .cv (.val (.bool false)))]) hwf) ⟨rfl, on_nil hwf⟩))))
              · refine w_skip ?_
                exact (w_bn (w_k ⟨signs, hr, (A_cut hwf)⟩))
            · refine w_seq ?_
              refine A_ops ?_
              refine A_upto 1 ?_
              obtain ⟨r3, eF20, hr⟩ := hr.bind
              refine A_call (out := ?o_eF20) (hp := ?p_eF20) ?c_eF20 ?d_eF20 ?_
              case c_eF20 => exact scansionref08_signed_runs n eF20
              case d_eF20 => rfl
              refine A_ops_end ?_
              refine w_n ?_
              refine A_condH hr (fun cF21 hr => ?_) (fun cF21 hr => ?_)
              · refine w_seq ?_
                refine A_region ?_
                refine w_n ?_
                refine w_joinR (sj := ⟨[(1, .cv (.val (.int .i64 depth))), (2, .cv (.val (.int .i64 (IntKind.i64.wrap (signs + (1 : Int)))))), (3, .cv (.val (.int .i64 sets))), (4, .cv (.val (.ptr (some (h.n + 0, 0))))), (9, .cv (.val (.int .i64 (n.Kids.length : Int)))), (59, .cv (.val (.bool (((n.Kids.length : Int) != (1 : Int)) || (decide ((IntKind.i64.wrap (signs + (1 : Int))) > (3 : Int)))))))], h.on [some (.cells [.val (.int .i64 n.Kind), .val (.int .i64 n.Set), .val (.sl (List.map eNode n.Kids))])]⟩) (A_ops ?_) ?_
                · refine A_upto 3 ?_
                  rcases Bool.eq_false_or_eq_true ((n.Kids.length : Int) != (1 : Int)) with cF22 | cF22
                  · refine A_ops_end ?_
                    exact w_k (A_cut hwf)
                  · refine A_ops_end ?_
                    exact w_k (A_cut hwf)
                refine A_condH hr (fun cF23 hr => ?_) (fun cF23 hr => ?_)
                · refine w_seq ?_
                  refine A_region ?_
                  refine w_n ?_
                  refine w_ret ?_
                  obtain rfl := hD _ hr
                  exact (w_br (w_tr (w_tr (A_endR (A_cut (os' := []) (sl := [(8, .cv (.val (.bool false)))]) hwf) ⟨rfl, on_nil hwf⟩))))
                · refine w_skip ?_
                  exact (w_bn (w_k ⟨(IntKind.i64.wrap (signs + (1 : Int))), hr, (A_cut hwf)⟩))
              · refine w_seq ?_
                refine A_region ?_
                refine w_n ?_
                refine w_ret ?_
                obtain rfl := hD _ hr
                exact (w_br (w_tr (w_tr (A_endR (A_cut (os' := []) (sl := [(8, .cv (.val (.bool false)))]) hwf) ⟨rfl, on_nil hwf⟩))))
theorem scansionref08_form_runs (n : TNode) (depth : Int) (signs : Int) (sets : Int) {h : Heap} {a : Bool} (e : scansionref08_form n depth signs sets = some a) :
    Runs CT 20 [.cv (.val (.agg [.int .i64 n.Kind, .int .i64 n.Set, .sl (List.map eNode n.Kids)])), .cv (.val (.int .i64 depth)), .cv (.val (.int .i64 signs)), .cv (.val (.int .i64 sets))] h fun o h' => o = [.cv (.val (.bool a))] ∧ h' = h := by
  obtain ⟨fuN, fuH⟩ := lim_some e
  exact scansionref08_form_runs_r fuN n depth signs sets (fuH fuN (Nat.le_refl fuN))
end Go.Val

/- part KW21 -/
/- scansion/scansionref08.met runs as it is read off. -/
namespace Go.Val
set_option linter.unusedVariables false
set_option linter.unusedSimpArgs false
set_option maxRecDepth 20000
open Go.Proofs
theorem scansionref08_met_runs_r : ∀ (fu : Nat) (n : TNode) (ahead : Int) {h : Heap} {a : Int} (e : scansionref08_met.r fu n ahead = some a),
    Runs CT 21 [.cv (.val (.agg [.int .i64 n.Kind, .int .i64 n.Set, .sl (List.map eNode n.Kids)])), .cv (.val (.int .i64 ahead))] h fun o h' => o = [.cv (.val (.int .i64 a))] ∧ h' = h := by
  intro fu
  induction fu with
  | zero => intros; rename_i e; simp [scansionref08_met.r] at e
  | succ fu ih =>
    intro n ahead h a e
    refine Runs.start Tryz.f21 _ Tryz.func21 rfl (by rw [Tryz.ntmps21]; simp) (by rfl) (by rfl) (fun hwf hu => ?_)
    obtain ⟨D, hD, hr⟩ : ∃ D : Int → Prop, (∀ z, D z → z = a) ∧ Holds (scansionref08_met.r (fu + 1) n ahead) D := ⟨fun z => z = a, fun _ h => h, Holds.intro e rfl⟩
    dsimp only [scansionref08_met.r] at hr
    change wpCode _ _ _ _ _ ⟨[(0, .cv (.val (.agg [.int .i64 n.Kind, .int .i64 n.Set, .sl (List.map eNode n.Kids)]))), (1, .cv (.val (.int .i64 ahead)))], h.on []⟩
    refine w_seq ?_
    refine A_region ?_
    refine w_n ?_
    refine w_seq ?_
    refine w_seq ?_
    refine A_region ?_
    refine w_n ?_
    refine A_condH hr (fun cF1 hr => ?_) (fun cF1 hr => ?_)
    · refine w_seq ?_
      refine w_seq ?_
      refine A_region ?_
      refine w_n ?_
      refine A_condH hr (fun cF2 hr => ?_) (fun cF2 hr => ?_)
      · refine w_seq ?_
        refine A_region ?_
        refine w_n ?_
        refine w_ret ?_
        obtain rfl := hD _ hr
        exact (w_tr (w_tr (A_endR (A_cut (os' := []) (sl := [(4, .cv (.val (.int .i64 (-1 : Int))))]) hwf) ⟨rfl, on_nil hwf⟩)))
      · refine w_skip ?_
        refine w_n ?_
        refine w_seq ?_
        refine A_region ?_
        refine w_n ?_
        refine w_ret ?_
        obtain rfl := hD _ hr
        exact (w_tr (A_endR (A_cut (os' := []) (sl := [(4, .cv (.val (.int .i64 (mx ahead (IntKind.i64.wrap (n.Set + (1 : Int)))))))]) hwf) ⟨rfl, on_nil hwf⟩))
    · refine w_skip ?_
      refine w_n ?_
      refine w_seq ?_
      refine w_seq ?_
      refine A_region ?_
      refine w_n ?_
      refine w_K (D := D) (fun xX : Int => ⟨[(1, .cv (.val (.int .i64 xX)))], h.on []⟩) (fun xX : Int => scansionref08_met.k1 xX) (fun xX s' hr ht => ?_) ?_
      · obtain ⟨ahead1, rfl⟩ : ∃ z, z = xX := ⟨xX, rfl⟩
        dsimp only [scansionref08_met.k1] at hr ht
        refine (w_nT ht ?_)
        refine w_seq ?_
        refine A_region ?_
        refine w_n ?_
        refine w_ret ?_
        obtain rfl := hD _ hr
        exact (A_endR (A_cut (os' := []) (sl := [(4, .cv (.val (.int .i64 ahead1)))]) hwf) ⟨rfl, on_nil hwf⟩)
      · refine w_block ?_
        refine w_Loop (fun xX : (Int × Int) => ⟨[(1, .cv (.val (.int .i64 xX.1))), (2, .cv (.val (.ptr (some (h.n + 0, 0))))), (5, .cv (.val (.int .i64 xX.2)))], h.on [some (.cells [.val (.int .i64 n.Kind), .val (.int .i64 n.Set), .val (.sl (List.map eNode n.Kids))])]⟩) hr (A_cut hwf) (fun W1 xX hr => ?_)
        obtain ⟨ahead2, i⟩ := xX
        dsimp only [scansionref08_met.b1] at hr
        refine w_seq ?_
        refine w_joinR (sj := ⟨[(1, .cv (.val (.int .i64 ahead2))), (2, .cv (.val (.ptr (some (h.n + 0, 0))))), (5, .cv (.val (.int .i64 i))), (26, .cv (.val (.bool ((decide (i < (n.Kids.length : Int))) && (decide (ahead2 ≥ (0 : Int)))))))], h.on [some (.cells [.val (.int .i64 n.Kind), .val (.int .i64 n.Set), .val (.sl (List.map eNode n.Kids))])]⟩) (A_ops ?_) ?_
        · refine A_upto 6 ?_
          rcases Bool.eq_false_or_eq_true (decide (i < (n.Kids.length : Int))) with cF3 | cF3
          · refine A_ops_end ?_
            exact w_k (A_cut hwf)
          · refine A_ops_end ?_
            exact w_k (A_cut hwf)
        refine A_condH hr (fun cF4 hr => ?_) (fun cF4 hr => ?_)
        · refine w_skip ?_
          refine w_n ?_
          refine w_seq ?_
          refine w_block ?_
          refine A_ops ?_
          obtain ⟨x, nF5, eF6, gF7, hr⟩ := hr.idx
          refine A_upto 6 ?_
          obtain ⟨r, eF8, hr⟩ := hr.bind
          refine A_call (out := ?o_eF8) (hp := ?p_eF8) ?c_eF8 ?d_eF8 ?_
          case c_eF8 => exact ih x ahead2 eF8
          case d_eF8 => rfl
          refine A_ops_end ?_
          refine (w_bn (w_n ?_))
          refine A_region ?_
          exact (w_k ⟨(r, (IntKind.i64.wrap (i + (1 : Int)))), hr, (A_cut hwf)⟩)
        · refine w_exit ?_
          exact (w_te (w_te (w_bx (w_k ⟨ahead2, (hr).map, (A_cut hwf)⟩))))
theorem scansionref08_met_runs (n : TNode) (ahead : Int) {h : Heap} {a : Int} (e : scansionref08_met n ahead = some a) :
    Runs CT 21 [.cv (.val (.agg [.int .i64 n.Kind, .int .i64 n.Set, .sl (List.map eNode n.Kids)])), .cv (.val (.int .i64 ahead))] h fun o h' => o = [.cv (.val (.int .i64 a))] ∧ h' = h := by
  obtain ⟨fuN, fuH⟩ := lim_some e
  exact scansionref08_met_runs_r fuN n ahead (fuH fuN (Nat.le_refl fuN))
end Go.Val

/- part KW10 -/
/- scansion/scansionref08.Right runs as it is read off. -/
namespace Go.Val
set_option linter.unusedVariables false
set_option linter.unusedSimpArgs false
set_option maxRecDepth 20000
open Go.Proofs
theorem scansionref08_Right_runs (p : TProgram) {h : Heap} {a : Bool} (e : scansionref08_Right p = some a) :
    Runs CT 10 [.cv (.val (.agg [.sl (List.map (eL eRange) p.Sets), .sl (List.map eRule p.Rules)]))] h fun o h' => o = [.cv (.val (.bool a))] ∧ h' = h := by
  refine Runs.start Tryz.f10 _ Tryz.func10 rfl (by rw [Tryz.ntmps10]; simp) (by rfl) (by rfl) (fun hwf hu => ?_)
  obtain ⟨D, hD, hr⟩ : ∃ D : Bool → Prop, (∀ z, D z → z = a) ∧ Holds (scansionref08_Right p) D := ⟨fun z => z = a, fun _ h => h, Holds.intro e rfl⟩
  dsimp only [scansionref08_Right] at hr
  change wpCode _ _ _ _ _ ⟨[(0, .cv (.val (.agg [.sl (List.map (eL eRange) p.Sets), .sl (List.map eRule p.Rules)])))], h.on []⟩
  refine w_seq ?_
  refine A_region ?_
  refine w_n ?_
  refine w_seq ?_
  refine w_joinR (sj := ⟨[(1, .cv (.val (.ptr (some (h.n + 0, 0))))), (17, .cv (.val (.bool ((decide ((p.Sets.length : Int) > (60 : Int))) || (decide ((p.Rules.length : Int) > (64 : Int)))))))], h.on [some (.cells [.val (.sl (List.map (eL eRange) p.Sets)), .val (.sl (List.map eRule p.Rules))])]⟩) (A_ops ?_) ?_
  · refine A_upto 5 ?_
    rcases Bool.eq_false_or_eq_true (decide ((p.Sets.length : Int) > (60 : Int))) with cF1 | cF1
    · refine A_ops_end ?_
      exact w_k (A_cut hwf)
    · refine A_ops_end ?_
      exact w_k (A_cut hwf)
  refine A_condH hr (fun cF2 hr => ?_) (fun cF2 hr => ?_)
  · refine w_seq ?_
    refine A_region ?_
    refine w_n ?_
    refine w_ret ?_
    obtain rfl := hD _ hr
    exact (w_tr (A_endR (A_cut (os' := []) (sl := [(2, .cv (.val (.bool false)))]) hwf) ⟨rfl, on_nil hwf⟩))
  · refine w_skip ?_
    refine w_n ?_
    refine w_seq ?_
    refine A_ops ?_
    refine A_upto 2 ?_
    obtain ⟨r, eF3, hr⟩ := hr.bind
    refine A_call (out := ?o_eF3) (hp := ?p_eF3) ?c_eF3 ?d_eF3 ?_
    case c_eF3 => exact scansionref08_sets_runs p.Sets eF3
    case d_eF3 => rfl
    refine A_ops_end ?_
    refine w_n ?_
    refine w_seq ?_
    refine w_seq ?_
    refine A_region ?_
    refine w_n ?_
    refine A_condH hr (fun cF4 hr => ?_) (fun cF4 hr => ?_)
    · refine w_seq ?_
      refine A_region ?_
      refine w_n ?_
      refine w_ret ?_
      obtain rfl := hD _ hr
      exact (w_tr (A_endR (A_cut (os' := []) (sl := [(2, .cv (.val (.bool false)))]) hwf) ⟨rfl, on_nil hwf⟩))
    · refine w_skip ?_
      refine w_n ?_
      refine w_seq ?_
      refine A_region ?_
      refine w_n ?_
      refine w_seq ?_
      refine w_seq ?_
      refine A_region ?_
      refine w_n ?_
      refine w_K (D := D) (fun xX : Int => ⟨[(1, .cv (.val (.ptr (some (h.n + 0, 0))))), (4, .cv (.val (.int .i64 xX)))], h.on [some (.cells [.val (.sl (List.map (eL eRange) p.Sets)), .val (.sl (List.map eRule p.Rules))])]⟩) (fun xX : Int => scansionref08_Right.k1 p xX) (fun xX s' hr ht => ?_) ?_
      · obtain ⟨ahead, rfl⟩ : ∃ z, z = xX := ⟨xX, rfl⟩
        dsimp only [scansionref08_Right.k1] at hr ht
        refine (w_nT ht ?_)
        refine w_seq ?_
        refine A_region ?_
        refine w_n ?_
        refine w_ret ?_
        obtain rfl := hD _ hr
        exact (A_endR (A_cut (os' := []) (sl := [(2, .cv (.val (.bool (ahead == (p.Sets.length : Int)))))]) hwf) ⟨rfl, on_nil hwf⟩)
      · refine w_block ?_
        refine w_Loop (fun xX : (Int × Int) => ⟨[(1, .cv (.val (.ptr (some (h.n + 0, 0))))), (4, .cv (.val (.int .i64 xX.1))), (5, .cv (.val (.int .i64 xX.2)))], h.on [some (.cells [.val (.sl (List.map (eL eRange) p.Sets)), .val (.sl (List.map eRule p.Rules))])]⟩) hr (A_cut hwf) (fun W1 xX hr => ?_)
        obtain ⟨ahead1, i⟩ := xX
        dsimp only [scansionref08_Right.b1] at hr
        refine w_seq ?_
        refine w_seq ?_
        refine A_region ?_
        refine w_n ?_
        refine A_condH hr (fun cF5 hr => ?_) (fun cF5 hr => ?_)
        · refine w_skip ?_
          refine w_n ?_
          refine w_seq ?_
          refine w_block ?_
          refine w_seq ?_
          refine w_drawn [0, 1, 2, 3, 4, 5, 6, 7, 8, 9, 10] (by rfl) ?_
          obtain ⟨x, nF6, eF7, gF8, hr⟩ := hr.idx
          refine p_run (l := [0, 1, 2, 3, 4, 5, 6, 7, 8]) (pend' := [8, 7, 6, 5, 4, 3, 2, 1, 0]) (by simp (disch := (apply Apart.mk; decide)) only [go_sem, Nat.reduceAdd, Nat.reduceLT, Nat.reduceMul, Nat.reduceLeDiff, Int.reduceToNat, Int.reduceLT, Int.reduceLE, nF6, eF7, gF8]; rfl) rfl ?_
          obtain ⟨r1, eF9, hr⟩ := hr.bind
          refine p_call (out := ?o_eF9) (hp := ?p_eF9) (pend' := []) rfl (by simp (disch := (apply Apart.mk; decide)) only [go_sem, Nat.reduceAdd, Nat.reduceLT, Nat.reduceMul, Nat.reduceLeDiff, Int.reduceToNat, Int.reduceLT, Int.reduceLE, Option.getD_some, nF6, eF7, gF8]) rfl (by simp (disch := (apply Apart.mk; decide)) only [go_sem, Nat.reduceAdd, Nat.reduceLT, Nat.reduceMul, Nat.reduceLeDiff, Int.reduceToNat, Int.reduceLT, Int.reduceLE, Option.getD_some, nF6, eF7, gF8]; rfl) (by simp (disch := (apply Apart.mk; decide)) only [go_sem, Nat.reduceAdd, Nat.reduceLT, Nat.reduceMul, Nat.reduceLeDiff, Int.reduceToNat, Int.reduceLT, Int.reduceLE, Option.getD_some, nF6, eF7, gF8]; rfl) (by simp (disch := (apply Apart.mk; decide)) only [go_sem, Nat.reduceAdd, Nat.reduceLT, Nat.reduceMul, Nat.reduceLeDiff, Int.reduceToNat, Int.reduceLT, Int.reduceLE, Option.getD_some, nF6, eF7, gF8]; rfl) (by rfl) ?c_eF9 ?d_eF9 ?_
          case c_eF9 => exact scansionref08_form_runs x.Left (0 : Int) (0 : Int) (p.Sets.length : Int) eF9
          case d_eF9 => rfl
          refine p_op (pend' := []) rfl (by simp (disch := (apply Apart.mk; decide)) only [go_sem, Nat.reduceAdd, Nat.reduceLT, Nat.reduceMul, Nat.reduceLeDiff, Int.reduceToNat, Int.reduceLT, Int.reduceLE, nF6, eF7, gF8]) (by simp (disch := (apply Apart.mk; decide)) only [go_sem, Nat.reduceAdd, Nat.reduceLT, Nat.reduceMul, Nat.reduceLeDiff, Int.reduceToNat, Int.reduceLT, Int.reduceLE, nF6, eF7, gF8]; rfl) (by rfl) ?_
          refine p_end (by simp (disch := (apply Apart.mk; decide)) only [go_sem, Nat.reduceAdd, Nat.reduceLT, Nat.reduceMul, Nat.reduceLeDiff, Int.reduceToNat, Int.reduceLT, Int.reduceLE, nF6, eF7, gF8]) ?_
          refine w_n ?_
          refine w_seq ?_
          refine w_drawn [0, 1, 2, 3, 4, 5, 6, 7, 8, 9, 10] (by rfl) ?_
          refine p_run (l := [0, 1, 2, 3, 4, 5, 6, 7, 8]) (pend' := [8, 7, 6, 5, 4, 3, 2, 1, 0]) (by simp (disch := (apply Apart.mk; decide)) only [go_sem, Nat.reduceAdd, Nat.reduceLT, Nat.reduceMul, Nat.reduceLeDiff, Int.reduceToNat, Int.reduceLT, Int.reduceLE, nF6, eF7, gF8]; rfl) rfl ?_
          obtain ⟨r2, eF10, hr⟩ := hr.bind
          refine p_call (out := ?o_eF10) (hp := ?p_eF10) (pend' := []) rfl (by simp (disch := (apply Apart.mk; decide)) only [go_sem, Nat.reduceAdd, Nat.reduceLT, Nat.reduceMul, Nat.reduceLeDiff, Int.reduceToNat, Int.reduceLT, Int.reduceLE, Option.getD_some, nF6, eF7, gF8]) rfl (by simp (disch := (apply Apart.mk; decide)) only [go_sem, Nat.reduceAdd, Nat.reduceLT, Nat.reduceMul, Nat.reduceLeDiff, Int.reduceToNat, Int.reduceLT, Int.reduceLE, Option.getD_some, nF6, eF7, gF8]; rfl) (by simp (disch := (apply Apart.mk; decide)) only [go_sem, Nat.reduceAdd, Nat.reduceLT, Nat.reduceMul, Nat.reduceLeDiff, Int.reduceToNat, Int.reduceLT, Int.reduceLE, Option.getD_some, nF6, eF7, gF8]; rfl) (by simp (disch := (apply Apart.mk; decide)) only [go_sem, Nat.reduceAdd, Nat.reduceLT, Nat.reduceMul, Nat.reduceLeDiff, Int.reduceToNat, Int.reduceLT, Int.reduceLE, Option.getD_some, nF6, eF7, gF8]; rfl) (by rfl) ?c_eF10 ?d_eF10 ?_
          case c_eF10 => exact scansionref08_form_runs x.Right (0 : Int) (0 : Int) (p.Sets.length : Int) eF10
          case d_eF10 => rfl
          refine p_op (pend' := []) rfl (by simp (disch := (apply Apart.mk; decide)) only [go_sem, Nat.reduceAdd, Nat.reduceLT, Nat.reduceMul, Nat.reduceLeDiff, Int.reduceToNat, Int.reduceLT, Int.reduceLE, nF6, eF7, gF8]) (by simp (disch := (apply Apart.mk; decide)) only [go_sem, Nat.reduceAdd, Nat.reduceLT, Nat.reduceMul, Nat.reduceLeDiff, Int.reduceToNat, Int.reduceLT, Int.reduceLE, nF6, eF7, gF8]; rfl) (by rfl) ?_
          refine p_end (by simp (disch := (apply Apart.mk; decide)) only [go_sem, Nat.reduceAdd, Nat.reduceLT, Nat.reduceMul, Nat.reduceLeDiff, Int.reduceToNat, Int.reduceLT, Int.reduceLE, nF6, eF7, gF8]) ?_
          refine w_n ?_
          refine w_seq ?_
          refine w_joinR (sj := ⟨[(1, .cv (.val (.ptr (some (h.n + 0, 0))))), (4, .cv (.val (.int .i64 ahead1))), (5, .cv (.val (.int .i64 i))), (55, .cv (.val (.bool ((!r1) || (!r2)))))], h.on [some (.cells [.val (.sl (List.map (eL eRange) p.Sets)), .val (.sl (List.map eRule p.Rules))])]⟩) (A_ops ?_) ?_
          · refine A_upto 3 ?_
            rcases Bool.eq_false_or_eq_true (!r1) with cF11 | cF11
            · refine A_ops_end ?_
              exact w_k (A_cut hwf)
            · refine A_ops_end ?_
              exact w_k (A_cut hwf)
          refine A_condH hr (fun cF12 hr => ?_) (fun cF12 hr => ?_)
          · refine w_seq ?_
            refine A_region ?_
            refine w_n ?_
            refine w_ret ?_
            obtain rfl := hD _ hr
            exact (w_tr (w_br (w_tr (w_tr (w_br (w_tr (w_tr (A_endR (A_cut (os' := []) (sl := [(2, .cv (.val (.bool false)))]) hwf) ⟨rfl, on_nil hwf⟩))))))))
          · refine w_skip ?_
            refine w_n ?_
            refine w_seq ?_
            refine A_ops ?_
            refine A_upto 7 ?_
            obtain ⟨r3, eF13, hr⟩ := hr.bind
            refine A_call (out := ?o_eF13) (hp := ?p_eF13) ?c_eF13 ?d_eF13 ?_
            case c_eF13 => exact scansionref08_met_runs x.Left ahead1 eF13
            case d_eF13 => rfl
            refine A_ops_end ?_
            refine w_n ?_
            refine w_seq ?_
            refine w_seq ?_
            refine A_region ?_
            refine w_n ?_
            refine w_K (D := (Aft W1 D)) (fun xX : Int => ⟨[(1, .cv (.val (.ptr (some (h.n + 0, 0))))), (4, .cv (.val (.int .i64 xX))), (5, .cv (.val (.int .i64 i)))], h.on [some (.cells [.val (.sl (List.map (eL eRange) p.Sets)), .val (.sl (List.map eRule p.Rules))])]⟩) (fun xX : Int => scansionref08_Right.k2 i xX) (fun xX s' hr ht => ?_) ?_
            · obtain ⟨ahead2, rfl⟩ : ∃ z, z = xX := ⟨xX, rfl⟩
              dsimp only [scansionref08_Right.k2] at hr ht
              refine (w_nT ht ?_)
              refine w_seq ?_
              refine A_region ?_
              refine w_n ?_
              refine A_condH hr (fun cF14 hr => ?_) (fun cF14 hr => ?_)
              · refine w_seq ?_
                refine A_region ?_
                refine w_n ?_
                refine w_ret ?_
                obtain rfl := hD _ hr
                exact (w_br (w_tr (w_tr (w_br (w_tr (w_tr (A_endR (A_cut (os' := []) (sl := [(2, .cv (.val (.bool false)))]) hwf) ⟨rfl, on_nil hwf⟩)))))))
              · refine w_skip ?_
                refine (w_bn (w_n ?_))
                refine A_region ?_
                exact (w_k ⟨(ahead2, (IntKind.i64.wrap (i + (1 : Int)))), hr, (A_cut hwf)⟩)
            · refine A_condH hr (fun cF15 hr => ?_) (fun cF15 hr => ?_)
              · refine A_ops ?_
                refine A_upto 7 ?_
                obtain ⟨r4, eF16, hr⟩ := hr.bind
                refine A_call (out := ?o_eF16) (hp := ?p_eF16) ?c_eF16 ?d_eF16 ?_
                case c_eF16 => exact scansionref08_met_runs x.Right r3 eF16
                case d_eF16 => rfl
                refine A_ops_end ?_
                exact (w_k ⟨r4, hr, (A_cut hwf)⟩)
              · refine w_skip ?_
                exact (w_k ⟨r3, hr, (A_cut hwf)⟩)
        · refine w_exit ?_
          exact (w_te (w_te (w_bx (w_k ⟨ahead1, (hr).map, (A_cut hwf)⟩))))
end Go.Val

/- part KW52 -/
/- scansion/scansionref07.hexa runs as it is read off. -/
namespace Go.Val
set_option linter.unusedVariables false
set_option linter.unusedSimpArgs false
set_option maxRecDepth 20000
open Go.Proofs
theorem scansionref07_hexa_runs_r : ∀ (fu : Nat) (n : Int) {h : Heap} {a : Str} (e : scansionref07_hexa.r fu n = some a),
    Runs CT 52 [.cv (.val (.int .i64 n))] h fun o h' => o = [.cv (.val (.str (bs a)))] ∧ h' = h := by
  intro fu
  induction fu with
  | zero => intros; rename_i e; simp [scansionref07_hexa.r] at e
  | succ fu ih =>
    intro n h a e
    refine Runs.start Tryz.f52 _ Tryz.func52 rfl (by rw [Tryz.ntmps52]; simp) (by rfl) (by rfl) (fun hwf hu => ?_)
    obtain ⟨D, hD, hr⟩ : ∃ D : Str → Prop, (∀ z, D z → z = a) ∧ Holds (scansionref07_hexa.r (fu + 1) n) D := ⟨fun z => z = a, fun _ h => h, Holds.intro e rfl⟩
    dsimp only [scansionref07_hexa.r] at hr
    change wpCode _ _ _ _ _ ⟨[(0, .cv (.val (.int .i64 n)))], h.on []⟩
    refine w_seq ?_
    refine A_region ?_
    refine w_n ?_
    refine w_seq ?_
    refine w_seq ?_
    refine A_region ?_
    refine w_n ?_
    refine A_condH hr (fun cF1 hr => ?_) (fun cF1 hr => ?_)
    · refine w_seq ?_
      (obtain ⟨c, nF2, eF3, gF4, hr⟩ := hr.idx; try simp (disch := (apply Apart.mk; decide)) only [go_sem, List.length_cons, List.length_nil, Nat.reduceAdd] at nF2 gF4)
      refine A_region ?_
      refine w_n ?_
      refine w_ret ?_
      obtain rfl := hD _ hr
      exact (w_tr (A_endR (A_cut (os' := []) (sl := [(2, .cv (.val (.str (bs ([c])))))]) hwf) ⟨rfl, on_nil hwf⟩))
    · refine w_skip ?_
      refine w_n ?_
      refine w_seq ?_
      refine A_ops ?_
      refine w_upto 2 rfl (by simp (disch := (apply Apart.mk; decide)) only [go_sem, Nat.reduceAdd, Nat.reduceLT, Nat.reduceMul, Nat.reduceLeDiff, Int.reduceToNat, Int.reduceLT, Int.reduceLE, (eq_false (by decide : ¬ ((16 : Int) = 0)))]; rfl) ?_
      obtain ⟨r, eF5, hr⟩ := hr.bind
      refine w_call' (out := ?o_eF5) (hp := ?p_eF5) rfl (by simp (disch := (apply Apart.mk; decide)) only [go_sem, Nat.reduceAdd, Nat.reduceLT, Nat.reduceMul, Nat.reduceLeDiff, Int.reduceToNat, Int.reduceLT, Int.reduceLE, Option.getD_some, (eq_false (by decide : ¬ ((16 : Int) = 0)))]; rfl) (by simp (disch := (apply Apart.mk; decide)) only [go_sem, Nat.reduceAdd, Nat.reduceLT, Nat.reduceMul, Nat.reduceLeDiff, Int.reduceToNat, Int.reduceLT, Int.reduceLE, Option.getD_some, (eq_false (by decide : ¬ ((16 : Int) = 0)))]; rfl) (by simp (disch := (apply Apart.mk; decide)) only [go_sem, Nat.reduceAdd, Nat.reduceLT, Nat.reduceMul, Nat.reduceLeDiff, Int.reduceToNat, Int.reduceLT, Int.reduceLE, Option.getD_some, (eq_false (by decide : ¬ ((16 : Int) = 0)))]; rfl) ?c_eF5 ?d_eF5 ?_
      case c_eF5 => exact ih (IntKind.i64.wrap (Int.tdiv n (16 : Int))) eF5
      case d_eF5 => rfl
      refine w_upto 2 rfl (by simp (disch := (apply Apart.mk; decide)) only [go_sem, Nat.reduceAdd, Nat.reduceLT, Nat.reduceMul, Nat.reduceLeDiff, Int.reduceToNat, Int.reduceLT, Int.reduceLE, (eq_false (by decide : ¬ ((16 : Int) = 0)))]; rfl) ?_
      obtain ⟨r1, eF6, hr⟩ := hr.bind
      refine w_call' (out := ?o_eF6) (hp := ?p_eF6) rfl (by simp (disch := (apply Apart.mk; decide)) only [go_sem, Nat.reduceAdd, Nat.reduceLT, Nat.reduceMul, Nat.reduceLeDiff, Int.reduceToNat, Int.reduceLT, Int.reduceLE, Option.getD_some, (eq_false (by decide : ¬ ((16 : Int) = 0))), (eq_false (by decide : ¬ ((16 : Int) = 0)))]; rfl) (by simp (disch := (apply Apart.mk; decide)) only [go_sem, Nat.reduceAdd, Nat.reduceLT, Nat.reduceMul, Nat.reduceLeDiff, Int.reduceToNat, Int.reduceLT, Int.reduceLE, Option.getD_some, (eq_false (by decide : ¬ ((16 : Int) = 0))), (eq_false (by decide : ¬ ((16 : Int) = 0)))]; rfl) (by simp (disch := (apply Apart.mk; decide)) only [go_sem, Nat.reduceAdd, Nat.reduceLT, Nat.reduceMul, Nat.reduceLeDiff, Int.reduceToNat, Int.reduceLT, Int.reduceLE, Option.getD_some, (eq_false (by decide : ¬ ((16 : Int) = 0))), (eq_false (by decide : ¬ ((16 : Int) = 0)))]; rfl) ?c_eF6 ?d_eF6 ?_
      case c_eF6 => exact ih (Int.tmod n (16 : Int)) eF6
      case d_eF6 => rfl
      obtain ⟨nF7, hr⟩ := hr.roomS
      refine w_ops_end (by simp (disch := (apply Apart.mk; decide)) only [go_sem, Nat.reduceAdd, Nat.reduceLT, Nat.reduceMul, Nat.reduceLeDiff, Int.reduceToNat, Int.reduceLT, Int.reduceLE, (eq_false (by decide : ¬ ((16 : Int) = 0))), nF7]; rfl) ?_
      refine w_n ?_
      refine w_ret ?_
      obtain rfl := hD _ hr
      exact (A_endR (A_cut (os' := []) (sl := [(2, .cv (.val (.str (bs (r ++ r1)))))]) hwf) ⟨rfl, on_nil hwf⟩)
theorem scansionref07_hexa_runs (n : Int) {h : Heap} {a : Str} (e : scansionref07_hexa n = some a) :
    Runs CT 52 [.cv (.val (.int .i64 n))] h fun o h' => o = [.cv (.val (.str (bs a)))] ∧ h' = h := by
  obtain ⟨fuN, fuH⟩ := lim_some e
  exact scansionref07_hexa_runs_r fuN n (fuH fuN (Nat.le_refl fuN))
end Go.Val

/- part KW32 -/
/- scansion/scansionref07.Set runs as it is read off. -/
namespace Go.Val
set_option linter.unusedVariables false
set_option linter.unusedSimpArgs false
set_option maxRecDepth 20000
open Go.Proofs
theorem scansionref07_Set_runs (l : List TRange) {h : Heap} {a : Str} (e : scansionref07_Set l = some a) :
    Runs CT 32 [.cv (.val (.sl (List.map eRange l)))] h fun o h' => o = [.cv (.val (.str (bs a)))] ∧ h' = h := by
  refine Runs.start Tryz.f32 _ Tryz.func32 rfl (by rw [Tryz.ntmps32]; simp) (by rfl) (by rfl) (fun hwf hu => ?_)
  obtain ⟨D, hD, hr⟩ : ∃ D : Str → Prop, (∀ z, D z → z = a) ∧ Holds (scansionref07_Set l) D := ⟨fun z => z = a, fun _ h => h, Holds.intro e rfl⟩
  dsimp only [scansionref07_Set] at hr
  change wpCode _ _ _ _ _ ⟨[(0, .cv (.val (.sl (List.map eRange l))))], h.on []⟩
  refine w_seq ?_
  refine A_region ?_
  refine w_n ?_
  refine w_seq ?_
  refine A_region ?_
  refine w_n ?_
  refine w_seq ?_
  refine w_seq ?_
  refine A_region ?_
  refine w_n ?_
  refine w_K (D := D) (fun xX : Str => ⟨[(3, .cv (.val (.str (bs xX))))], h.on []⟩) (fun xX : Str => scansionref07_Set.k1 xX) (fun xX s' hr ht => ?_) ?_
  · obtain ⟨s, rfl⟩ : ∃ z, z = xX := ⟨xX, rfl⟩
    dsimp only [scansionref07_Set.k1] at hr ht
    refine (w_nT ht ?_)
    refine w_seq ?_
    obtain ⟨nF1, hr⟩ := hr.roomS
    refine A_region ?_
    refine w_n ?_
    refine w_ret ?_
    obtain rfl := hD _ hr
    exact (A_endR (A_cut (os' := []) (sl := [(2, .cv (.val (.str (bs (s ++ ([93] : Str))))))]) hwf) ⟨rfl, on_nil hwf⟩)
  · refine w_block ?_
    refine w_Loop (fun xX : (Str × Int) => ⟨[(0, .cv (.val (.sl (List.map eRange l)))), (3, .cv (.val (.str (bs xX.1)))), (4, .cv (.val (.int .i64 xX.2)))], h.on []⟩) hr (A_cut hwf) (fun W1 xX hr => ?_)
    obtain ⟨s1, i⟩ := xX
    dsimp only [scansionref07_Set.b1] at hr
    refine w_seq ?_
    refine w_seq ?_
    refine A_region ?_
    refine w_n ?_
    refine A_condH hr (fun cF2 hr => ?_) (fun cF2 hr => ?_)
    · refine w_skip ?_
      refine w_n ?_
      refine w_seq ?_
      refine w_K (D := (Aft W1 D)) (fun xX : Str => ⟨[(0, .cv (.val (.sl (List.map eRange l)))), (3, .cv (.val (.str (bs xX)))), (4, .cv (.val (.int .i64 i)))], h.on []⟩) (fun xX : Str => scansionref07_Set.k2 i xX) (fun xX s' hr ht => ?_) ?_
      · obtain ⟨s2, rfl⟩ : ∃ z, z = xX := ⟨xX, rfl⟩
        dsimp only [scansionref07_Set.k2] at hr ht
        refine (w_nT ht ?_)
        refine A_region ?_
        exact (w_k ⟨(s2, (IntKind.i64.wrap (i + (1 : Int)))), hr, (A_cut hwf)⟩)
      · refine w_block ?_
        refine w_seq ?_
        refine A_ops ?_
        obtain ⟨nF3, hr⟩ := hr.roomS
        obtain ⟨x, nF4, eF5, gF6, hr⟩ := hr.idx
        refine A_upto 7 ?_
        obtain ⟨r, eF7, hr⟩ := hr.bind
        refine A_call (out := ?o_eF7) (hp := ?p_eF7) ?c_eF7 ?d_eF7 ?_
        case c_eF7 => exact scansionref07_hexa_runs x.Low eF7
        case d_eF7 => rfl
        obtain ⟨nF8, hr⟩ := hr.roomS
        obtain ⟨nF9, hr⟩ := hr.roomS
        refine A_ops_end ?_
        refine w_n ?_
        refine w_seq ?_
        refine w_drawn [0, 1, 2, 3, 4, 5, 6, 7, 8, 9, 10] (by rfl) ?_
        refine p_run (l := [0, 1, 2, 3, 4, 5, 6, 7, 8, 9, 10]) (pend' := [10, 9, 8, 7, 6, 5, 4, 3, 2, 1, 0]) (by simp (disch := (apply Apart.mk; decide)) only [go_sem, Nat.reduceAdd, Nat.reduceLT, Nat.reduceMul, Nat.reduceLeDiff, Int.reduceToNat, Int.reduceLT, Int.reduceLE, nF4, eF5, gF6]; rfl) rfl ?_
        refine p_end (by simp (disch := (apply Apart.mk; decide)) only [go_sem, Nat.reduceAdd, Nat.reduceLT, Nat.reduceMul, Nat.reduceLeDiff, Int.reduceToNat, Int.reduceLT, Int.reduceLE, nF4, eF5, gF6, nF4, eF5, gF6]) ?_
        refine w_n ?_
        refine A_condH hr (fun cF10 hr => ?_) (fun cF10 hr => ?_)
        · refine A_ops ?_
          obtain ⟨nF11, hr⟩ := hr.roomS
          refine A_upto 7 ?_
          obtain ⟨r1, eF12, hr⟩ := hr.bind
          refine A_call (out := ?o_eF12) (hp := ?p_eF12) ?c_eF12 ?d_eF12 ?_
          case c_eF12 => exact scansionref07_hexa_runs x.High eF12
          case d_eF12 => rfl
          obtain ⟨nF13, hr⟩ := hr.roomS
          obtain ⟨nF14, hr⟩ := hr.roomS
          refine A_ops_end ?_
          exact (w_bn (w_k ⟨((((((s1 ++ ([92, 120, 123] : Str)) ++ r) ++ ([125] : Str)) ++ ([45, 92, 120, 123] : Str)) ++ r1) ++ ([125] : Str)), hr, (A_cut hwf)⟩))
        · refine w_skip ?_
          exact (w_bn (w_k ⟨(((s1 ++ ([92, 120, 123] : Str)) ++ r) ++ ([125] : Str)), hr, (A_cut hwf)⟩))
    · refine w_exit ?_
      exact (w_te (w_te (w_bx (w_k ⟨s1, (hr).map, (A_cut hwf)⟩))))
end Go.Val

/- part KW15 -/
/- scansion/scansionref08.text runs as it is read off. -/
namespace Go.Val
set_option linter.unusedVariables false
set_option linter.unusedSimpArgs false
set_option maxRecDepth 20000
open Go.Proofs
theorem scansionref08_text_runs_r : ∀ (fu : Nat) (n : TNode) (sets : List (List TRange)) {h : Heap} {a : Str} (e : scansionref08_text.r fu n sets = some a),
    Runs CT 15 [.cv (.val (.agg [.int .i64 n.Kind, .int .i64 n.Set, .sl (List.map eNode n.Kids)])), .cv (.val (.sl (List.map (eL eRange) sets)))] h fun o h' => o = [.cv (.val (.str (bs a)))] ∧ h' = h := by
  intro fu
  induction fu with
  | zero => intros; rename_i e; simp [scansionref08_text.r] at e
  | succ fu ih =>
    intro n sets h a e
    refine Runs.start Tryz.f15 _ Tryz.func15 rfl (by rw [Tryz.ntmps15]; simp) (by rfl) (by rfl) (fun hwf hu => ?_)
    obtain ⟨D, hD, hr⟩ : ∃ D : Str → Prop, (∀ z, D z → z = a) ∧ Holds (scansionref08_text.r (fu + 1) n sets) D := ⟨fun z => z = a, fun _ h => h, Holds.intro e rfl⟩
    dsimp only [scansionref08_text.r] at hr
    change wpCode _ _ _ _ _ ⟨[(0, .cv (.val (.agg [.int .i64 n.Kind, .int .i64 n.Set, .sl (List.map eNode n.Kids)]))), (1, .cv (.val (.sl (List.map (eL eRange) sets))))], h.on []⟩
    refine w_seq ?_
    refine A_region ?_
    refine w_n ?_
    refine w_seq ?_
    refine w_seq ?_
    refine A_region ?_
    refine w_n ?_
    refine A_condH hr (fun cF1 hr => ?_) (fun cF1 hr => ?_)
    · refine w_seq ?_
      refine A_ops ?_
      obtain ⟨xs, nF2, eF3, gF4, hr⟩ := hr.idx
      refine A_upto 5 ?_
      obtain ⟨r, eF5, hr⟩ := hr.bind
      refine A_call (out := ?o_eF5) (hp := ?p_eF5) ?c_eF5 ?d_eF5 ?_
      case c_eF5 => exact scansionref07_Set_runs xs eF5
      case d_eF5 => rfl
      refine A_ops_end ?_
      refine w_n ?_
      refine w_ret ?_
      obtain rfl := hD _ hr
      exact (w_tr (A_endR (A_cut (os' := []) (sl := [(4, .cv (.val (.str (bs r))))]) hwf) ⟨rfl, on_nil hwf⟩))
    · refine w_skip ?_
      refine w_n ?_
      refine w_seq ?_
      refine A_region ?_
      refine w_n ?_
      refine w_seq ?_
      refine w_seq ?_
      refine A_region ?_
      refine w_n ?_
      refine w_K (D := D) (fun xX : Str => ⟨[(2, .cv (.val (.ptr (some (h.n + 0, 0))))), (5, .cv (.val (.str (bs xX))))], h.on [some (.cells [.val (.int .i64 n.Kind), .val (.int .i64 n.Set), .val (.sl (List.map eNode n.Kids))])]⟩) (fun xX : Str => scansionref08_text.k1 n xX) (fun xX s' hr ht => ?_) ?_
      · obtain ⟨s, rfl⟩ : ∃ z, z = xX := ⟨xX, rfl⟩
        dsimp only [scansionref08_text.k1] at hr ht
        refine (w_nT ht ?_)
        refine w_seq ?_
        refine w_seq ?_
        refine A_region ?_
        refine w_n ?_
        refine w_block ?_
        refine w_seq ?_
        refine A_region ?_
        refine w_n ?_
        refine A_condH hr (fun cF6 hr => ?_) (fun cF6 hr => ?_)
        · refine w_seq ?_
          obtain ⟨nF7, hr⟩ := hr.roomS
          refine A_region ?_
          refine w_n ?_
          refine w_ret ?_
          obtain rfl := hD _ hr
          exact (w_br (w_tr (A_endR (A_cut (os' := []) (sl := [(4, .cv (.val (.str (bs (s ++ ([42] : Str))))))]) hwf) ⟨rfl, on_nil hwf⟩)))
        · refine w_seq ?_
          refine A_region ?_
          refine w_n ?_
          refine A_condH hr (fun cF8 hr => ?_) (fun cF8 hr => ?_)
          · refine w_seq ?_
            obtain ⟨nF9, hr⟩ := hr.roomS
            refine A_region ?_
            refine w_n ?_
            refine w_ret ?_
            obtain rfl := hD _ hr
            exact (w_br (w_tr (A_endR (A_cut (os' := []) (sl := [(4, .cv (.val (.str (bs (s ++ ([43] : Str))))))]) hwf) ⟨rfl, on_nil hwf⟩)))
          · refine w_seq ?_
            refine A_region ?_
            refine w_n ?_
            refine A_condH hr (fun cF10 hr => ?_) (fun cF10 hr => ?_)
            · refine w_seq ?_
              obtain ⟨nF11, hr⟩ := hr.roomS
              refine A_region ?_
              refine w_n ?_
              refine w_ret ?_
              obtain rfl := hD _ hr
              exact (w_br (w_tr (A_endR (A_cut (os' := []) (sl := [(4, .cv (.val (.str (bs (s ++ ([63] : Str))))))]) hwf) ⟨rfl, on_nil hwf⟩)))
            · refine w_skip ?_
              refine (w_bn (w_n ?_))
              refine w_seq ?_
              refine A_region ?_
              refine w_n ?_
              refine w_ret ?_
              obtain rfl := hD _ hr
              exact (A_endR (A_cut (os' := []) (sl := [(4, .cv (.val (.str (bs s))))]) hwf) ⟨rfl, on_nil hwf⟩)
      · refine w_block ?_
        refine w_Loop (fun xX : (Str × Int) => ⟨[(1, .cv (.val (.sl (List.map (eL eRange) sets)))), (2, .cv (.val (.ptr (some (h.n + 0, 0))))), (5, .cv (.val (.str (bs xX.1)))), (6, .cv (.val (.int .i64 xX.2)))], h.on [some (.cells [.val (.int .i64 n.Kind), .val (.int .i64 n.Set), .val (.sl (List.map eNode n.Kids))])]⟩) hr (A_cut hwf) (fun W1 xX hr => ?_)
        obtain ⟨s1, i⟩ := xX
        dsimp only [scansionref08_text.b1] at hr
        refine w_seq ?_
        refine w_seq ?_
        refine A_region ?_
        refine w_n ?_
        refine A_condH hr (fun cF12 hr => ?_) (fun cF12 hr => ?_)
        · refine w_skip ?_
          refine w_n ?_
          refine w_seq ?_
          refine w_block ?_
          refine w_seq ?_
          refine A_ops ?_
          obtain ⟨x, nF13, eF14, gF15, hr⟩ := hr.idx
          refine A_upto 6 ?_
          obtain ⟨r1, eF16, hr⟩ := hr.bind
          refine A_call (out := ?o_eF16) (hp := ?p_eF16) ?c_eF16 ?d_eF16 ?_
          case c_eF16 => exact ih x sets eF16
          case d_eF16 => rfl
          refine A_ops_end ?_
          refine w_n ?_
          refine w_seq ?_
          refine w_seq ?_
          refine w_drawn [0, 1, 2, 3, 4, 5, 6] (by rfl) ?_
          refine p_run (l := [0, 1, 2, 3, 4, 5]) (pend' := [5, 4, 3, 2, 1, 0]) (by simp (disch := (apply Apart.mk; decide)) only [go_sem, Nat.reduceAdd, Nat.reduceLT, Nat.reduceMul, Nat.reduceLeDiff, Int.reduceToNat, Int.reduceLT, Int.reduceLE, nF13, eF14, gF15]; rfl) rfl ?_
          obtain ⟨r2, eF17, hr⟩ := hr.bind
          refine p_call (out := ?o_eF17) (hp := ?p_eF17) (pend' := []) rfl (by simp (disch := (apply Apart.mk; decide)) only [go_sem, Nat.reduceAdd, Nat.reduceLT, Nat.reduceMul, Nat.reduceLeDiff, Int.reduceToNat, Int.reduceLT, Int.reduceLE, Option.getD_some, nF13, eF14, gF15]) rfl (by simp (disch := (apply Apart.mk; decide)) only [go_sem, Nat.reduceAdd, Nat.reduceLT, Nat.reduceMul, Nat.reduceLeDiff, Int.reduceToNat, Int.reduceLT, Int.reduceLE, Option.getD_some, nF13, eF14, gF15]; rfl) (by simp (disch := (apply Apart.mk; decide)) only [go_sem, Nat.reduceAdd, Nat.reduceLT, Nat.reduceMul, Nat.reduceLeDiff, Int.reduceToNat, Int.reduceLT, Int.reduceLE, Option.getD_some, nF13, eF14, gF15]; rfl) (by simp (disch := (apply Apart.mk; decide)) only [go_sem, Nat.reduceAdd, Nat.reduceLT, Nat.reduceMul, Nat.reduceLeDiff, Int.reduceToNat, Int.reduceLT, Int.reduceLE, Option.getD_some, nF13, eF14, gF15]; rfl) (by rfl) ?c_eF17 ?d_eF17 ?_
          case c_eF17 => exact scansionref08_open_runs n x eF17
          case d_eF17 => rfl
          refine p_end (by simp (disch := (apply Apart.mk; decide)) only [go_sem, Nat.reduceAdd, Nat.reduceLT, Nat.reduceMul, Nat.reduceLeDiff, Int.reduceToNat, Int.reduceLT, Int.reduceLE, nF13, eF14, gF15]) ?_
          refine w_n ?_
          refine w_K (D := (Aft W1 D)) (fun xX : Str => ⟨[(1, .cv (.val (.sl (List.map (eL eRange) sets)))), (2, .cv (.val (.ptr (some (h.n + 0, 0))))), (5, .cv (.val (.str (bs s1)))), (6, .cv (.val (.int .i64 i))), (7, .cv (.val (.str (bs xX))))], h.on [some (.cells [.val (.int .i64 n.Kind), .val (.int .i64 n.Set), .val (.sl (List.map eNode n.Kids))])]⟩) (fun xX : Str => scansionref08_text.k2 n s1 i xX) (fun xX s' hr ht => ?_) ?_
          · obtain ⟨x1, rfl⟩ : ∃ z, z = xX := ⟨xX, rfl⟩
            dsimp only [scansionref08_text.k2] at hr ht
            refine (w_nT ht ?_)
            refine w_seq ?_
            refine w_joinR (sj := ⟨[(1, .cv (.val (.sl (List.map (eL eRange) sets)))), (2, .cv (.val (.ptr (some (h.n + 0, 0))))), (5, .cv (.val (.str (bs s1)))), (6, .cv (.val (.int .i64 i))), (7, .cv (.val (.str (bs x1)))), (47, .cv (.val (.bool ((n.Kind == (2 : Int)) && (decide (i > (0 : Int)))))))], h.on [some (.cells [.val (.int .i64 n.Kind), .val (.int .i64 n.Set), .val (.sl (List.map eNode n.Kids))])]⟩) (A_ops ?_) ?_
            · refine A_upto 4 ?_
              rcases Bool.eq_false_or_eq_true (n.Kind == (2 : Int)) with cF18 | cF18
              · refine A_ops_end ?_
                exact w_k (A_cut hwf)
              · refine A_ops_end ?_
                exact w_k (A_cut hwf)
            refine w_K (D := (Aft W1 D)) (fun xX : Str => ⟨[(1, .cv (.val (.sl (List.map (eL eRange) sets)))), (2, .cv (.val (.ptr (some (h.n + 0, 0))))), (5, .cv (.val (.str (bs s1)))), (6, .cv (.val (.int .i64 i))), (7, .cv (.val (.str (bs xX))))], h.on [some (.cells [.val (.int .i64 n.Kind), .val (.int .i64 n.Set), .val (.sl (List.map eNode n.Kids))])]⟩) (fun xX : Str => scansionref08_text.k3 s1 i xX) (fun xX s' hr ht => ?_) ?_
            · obtain ⟨x2, rfl⟩ : ∃ z, z = xX := ⟨xX, rfl⟩
              dsimp only [scansionref08_text.k3] at hr ht
              refine (w_nT ht ?_)
              obtain ⟨nF19, hr⟩ := hr.roomS
              refine A_region ?_
              refine (w_bn (w_n ?_))
              refine A_region ?_
              exact (w_k ⟨((s1 ++ x2), (IntKind.i64.wrap (i + (1 : Int)))), hr, (A_cut hwf)⟩)
            · refine A_condH hr (fun cF20 hr => ?_) (fun cF20 hr => ?_)
              · obtain ⟨nF21, hr⟩ := hr.roomS
                refine A_region ?_
                exact (w_k ⟨(([124] : Str) ++ x1), hr, (A_cut hwf)⟩)
              · refine w_skip ?_
                exact (w_k ⟨x1, hr, (A_cut hwf)⟩)
          · refine A_condH hr (fun cF22 hr => ?_) (fun cF22 hr => ?_)
            · obtain ⟨nF23, hr⟩ := hr.roomS
              obtain ⟨nF24, hr⟩ := hr.roomS
              refine A_region ?_
              exact (w_k ⟨((([40] : Str) ++ r1) ++ ([41] : Str)), hr, (A_cut hwf)⟩)
            · refine w_skip ?_
              exact (w_k ⟨r1, hr, (A_cut hwf)⟩)
        · refine w_exit ?_
          exact (w_te (w_te (w_bx (w_k ⟨s1, (hr).map, (A_cut hwf)⟩))))
theorem scansionref08_text_runs (n : TNode) (sets : List (List TRange)) {h : Heap} {a : Str} (e : scansionref08_text n sets = some a) :
    Runs CT 15 [.cv (.val (.agg [.int .i64 n.Kind, .int .i64 n.Set, .sl (List.map eNode n.Kids)])), .cv (.val (.sl (List.map (eL eRange) sets)))] h fun o h' => o = [.cv (.val (.str (bs a)))] ∧ h' = h := by
  obtain ⟨fuN, fuH⟩ := lim_some e
  exact scansionref08_text_runs_r fuN n sets (fuH fuN (Nat.le_refl fuN))
end Go.Val

/- part KW8 -/
/- scansion/scansionref08.Print runs as it is read off. -/
namespace Go.Val
set_option linter.unusedVariables false
set_option linter.unusedSimpArgs false
set_option maxRecDepth 20000
open Go.Proofs
theorem scansionref08_Print_runs (p : TProgram) {h : Heap} {a : (List UInt8 × Int)} (e : scansionref08_Print p = some a) :
    Runs CT 8 [.cv (.val (.agg [.sl (List.map (eL eRange) p.Sets), .sl (List.map eRule p.Rules)]))] h fun o h' => o = [.cv (.val (.sl (List.map eU a.1))), .cv (.val (.int .i64 a.2))] ∧ h' = h := by
  refine Runs.start Tryz.f8 _ Tryz.func8 rfl (by rw [Tryz.ntmps8]; simp) (by rfl) (by rfl) (fun hwf hu => ?_)
  obtain ⟨D, hD, hr⟩ : ∃ D : (List UInt8 × Int) → Prop, (∀ z, D z → z = a) ∧ Holds (scansionref08_Print p) D := ⟨fun z => z = a, fun _ h => h, Holds.intro e rfl⟩
  dsimp only [scansionref08_Print] at hr
  change wpCode _ _ _ _ _ ⟨[(0, .cv (.val (.agg [.sl (List.map (eL eRange) p.Sets), .sl (List.map eRule p.Rules)])))], h.on []⟩
  refine w_seq ?_
  refine A_region ?_
  refine w_n ?_
  refine w_seq ?_
  refine A_ops ?_
  refine A_upto 1 ?_
  obtain ⟨r, eF1, hr⟩ := hr.bind
  refine A_call (out := ?o_eF1) (hp := ?p_eF1) ?c_eF1 ?d_eF1 ?_
  case c_eF1 => exact scansionref08_Right_runs p eF1
  case d_eF1 => rfl
  refine A_ops_end ?_
  refine w_n ?_
  refine w_seq ?_
  refine w_seq ?_
  refine A_region ?_
  refine w_n ?_
  refine A_condH hr (fun cF2 hr => ?_) (fun cF2 hr => ?_)
  · refine w_seq ?_
    refine A_region ?_
    refine w_n ?_
    refine w_ret ?_
    obtain rfl := hD _ hr
    exact (w_tr (A_endR (A_cut (os' := []) (sl := [(2, .cv (.val (.sl (List.map eU ([] : List UInt8))))), (3, .cv (.val (.int .i64 (1 : Int))))]) hwf) ⟨rfl, on_nil hwf⟩))
  · refine w_skip ?_
    refine w_n ?_
    refine w_seq ?_
    refine A_region ?_
    refine w_n ?_
    refine w_seq ?_
    refine w_seq ?_
    refine A_region ?_
    refine w_n ?_
    refine w_K (D := D) (fun xX : Str => ⟨[(5, .cv (.val (.str (bs xX))))], h.on []⟩) (fun xX : Str => scansionref08_Print.k1 xX) (fun xX s' hr ht => ?_) ?_
    · obtain ⟨s, rfl⟩ : ∃ z, z = xX := ⟨xX, rfl⟩
      dsimp only [scansionref08_Print.k1] at hr ht
      refine (w_nT ht ?_)
      refine w_seq ?_
      refine A_region ?_
      refine w_n ?_
      refine w_ret ?_
      obtain rfl := hD _ hr
      exact (A_endR (A_cut (os' := []) (sl := [(2, .cv (.val (.sl (List.map eU s)))), (3, .cv (.val (.int .i64 (0 : Int))))]) hwf) ⟨rfl, on_nil hwf⟩)
    · refine w_block ?_
      refine w_Loop (fun xX : (Str × Int) => ⟨[(1, .cv (.val (.ptr (some (h.n + 0, 0))))), (5, .cv (.val (.str (bs xX.1)))), (6, .cv (.val (.int .i64 xX.2)))], h.on [some (.cells [.val (.sl (List.map (eL eRange) p.Sets)), .val (.sl (List.map eRule p.Rules))])]⟩) hr (A_cut hwf) (fun W1 xX hr => ?_)
      obtain ⟨s1, i⟩ := xX
      dsimp only [scansionref08_Print.b1] at hr
      refine w_seq ?_
      refine w_seq ?_
      refine A_region ?_
      refine w_n ?_
      refine A_condH hr (fun cF3 hr => ?_) (fun cF3 hr => ?_)
      · refine w_skip ?_
        refine w_n ?_
        refine w_seq ?_
        refine w_block ?_
        refine w_seq ?_
        refine A_region ?_
        refine w_n ?_
        refine w_seq ?_
        refine w_seq ?_
        obtain ⟨x, nF4, eF5, gF6, hr⟩ := hr.idx
        refine A_region ?_
        refine w_n ?_
        refine w_K (D := (Aft W1 D)) (fun xX : Str => ⟨[(1, .cv (.val (.ptr (some (h.n + 0, 0))))), (5, .cv (.val (.str (bs s1)))), (6, .cv (.val (.int .i64 i))), (7, .cv (.val (.str (bs xX))))], h.on [some (.cells [.val (.sl (List.map (eL eRange) p.Sets)), .val (.sl (List.map eRule p.Rules))])]⟩) (fun xX : Str => scansionref08_Print.k2 p s1 i x xX) (fun xX s' hr ht => ?_) ?_
        · obtain ⟨x1, rfl⟩ : ∃ z, z = xX := ⟨xX, rfl⟩
          dsimp only [scansionref08_Print.k2] at hr ht
          refine (w_nT ht ?_)
          refine w_drawn [0, 1, 2, 3, 4, 5, 6, 7, 8, 9, 10, 14, 15, 16, 17, 18, 19, 20, 21, 11, 12, 13, 22, 23, 24, 25] (by rfl) ?_
          obtain ⟨nF7, hr⟩ := hr.roomS
          refine p_run (l := [0, 1, 2, 3, 4, 5, 6, 7, 8, 9, 10, 14, 15, 16, 17, 18, 19, 20, 21]) (pend' := [21, 20, 19, 18, 17, 16, 15, 14, 10, 9, 8, 7, 6, 5, 4, 3, 2, 1, 0]) (by simp (disch := (apply Apart.mk; decide)) only [go_sem, Nat.reduceAdd, Nat.reduceLT, Nat.reduceMul, Nat.reduceLeDiff, Int.reduceToNat, Int.reduceLT, Int.reduceLE, nF7, nF4, eF5, gF6]; rfl) rfl ?_
          obtain ⟨r1, eF8, hr⟩ := hr.bind
          refine p_call (out := ?o_eF8) (hp := ?p_eF8) (pend' := [21, 20, 19, 18, 17, 16, 15, 14, 2, 1, 0]) rfl (by simp (disch := (apply Apart.mk; decide)) only [go_sem, Nat.reduceAdd, Nat.reduceLT, Nat.reduceMul, Nat.reduceLeDiff, Int.reduceToNat, Int.reduceLT, Int.reduceLE, Option.getD_some, nF7, nF4, eF5, gF6, nF4, eF5, gF6]) rfl (by simp (disch := (apply Apart.mk; decide)) only [go_sem, Nat.reduceAdd, Nat.reduceLT, Nat.reduceMul, Nat.reduceLeDiff, Int.reduceToNat, Int.reduceLT, Int.reduceLE, Option.getD_some, nF7, nF4, eF5, gF6, nF4, eF5, gF6]; rfl) (by simp (disch := (apply Apart.mk; decide)) only [go_sem, Nat.reduceAdd, Nat.reduceLT, Nat.reduceMul, Nat.reduceLeDiff, Int.reduceToNat, Int.reduceLT, Int.reduceLE, Option.getD_some, nF7, nF4, eF5, gF6, nF4, eF5, gF6]; rfl) (by simp (disch := (apply Apart.mk; decide)) only [go_sem, Nat.reduceAdd, Nat.reduceLT, Nat.reduceMul, Nat.reduceLeDiff, Int.reduceToNat, Int.reduceLT, Int.reduceLE, Option.getD_some, nF7, nF4, eF5, gF6, nF4, eF5, gF6]; rfl) (by rfl) ?c_eF8 ?d_eF8 ?_
          case c_eF8 => exact scansionref08_text_runs x.Left p.Sets eF8
          case d_eF8 => rfl
          obtain ⟨nF9, hr⟩ := hr.roomS
          obtain ⟨nF10, hr⟩ := hr.roomS
          refine p_run (l := [12, 13]) (pend' := [13, 12, 21, 20, 19, 18, 17, 16, 15, 14, 2, 1, 0]) (by simp (disch := (apply Apart.mk; decide)) only [go_sem, Nat.reduceAdd, Nat.reduceLT, Nat.reduceMul, Nat.reduceLeDiff, Int.reduceToNat, Int.reduceLT, Int.reduceLE, nF7, nF4, eF5, gF6, nF9, nF10]; rfl) rfl ?_
          obtain ⟨r2, eF11, hr⟩ := hr.bind
          refine p_call (out := ?o_eF11) (hp := ?p_eF11) (pend' := [13, 12, 2, 1, 0]) rfl (by simp (disch := (apply Apart.mk; decide)) only [go_sem, Nat.reduceAdd, Nat.reduceLT, Nat.reduceMul, Nat.reduceLeDiff, Int.reduceToNat, Int.reduceLT, Int.reduceLE, Option.getD_some, nF7, nF4, eF5, gF6, nF4, eF5, gF6, nF9, nF10]) rfl (by simp (disch := (apply Apart.mk; decide)) only [go_sem, Nat.reduceAdd, Nat.reduceLT, Nat.reduceMul, Nat.reduceLeDiff, Int.reduceToNat, Int.reduceLT, Int.reduceLE, Option.getD_some, nF7, nF4, eF5, gF6, nF4, eF5, gF6, nF9, nF10]; rfl) (by simp (disch := (apply Apart.mk; decide)) only [go_sem, Nat.reduceAdd, Nat.reduceLT, Nat.reduceMul, Nat.reduceLeDiff, Int.reduceToNat, Int.reduceLT, Int.reduceLE, Option.getD_some, nF7, nF4, eF5, gF6, nF4, eF5, gF6, nF9, nF10]; rfl) (by simp (disch := (apply Apart.mk; decide)) only [go_sem, Nat.reduceAdd, Nat.reduceLT, Nat.reduceMul, Nat.reduceLeDiff, Int.reduceToNat, Int.reduceLT, Int.reduceLE, Option.getD_some, nF7, nF4, eF5, gF6, nF4, eF5, gF6, nF9, nF10]; rfl) (by rfl) ?c_eF11 ?d_eF11 ?_
          case c_eF11 => exact scansionref08_text_runs x.Right p.Sets eF11
          case d_eF11 => rfl
          obtain ⟨nF12, hr⟩ := hr.roomS
          obtain ⟨nF13, hr⟩ := hr.roomS
          refine p_run (l := [23, 24]) (pend' := [24, 23, 13, 12, 2, 1, 0]) (by simp (disch := (apply Apart.mk; decide)) only [go_sem, Nat.reduceAdd, Nat.reduceLT, Nat.reduceMul, Nat.reduceLeDiff, Int.reduceToNat, Int.reduceLT, Int.reduceLE, nF7, nF4, eF5, gF6, nF9, nF10, nF12, nF13]; rfl) rfl ?_
          refine p_op (pend' := []) rfl (by simp (disch := (apply Apart.mk; decide)) only [go_sem, Nat.reduceAdd, Nat.reduceLT, Nat.reduceMul, Nat.reduceLeDiff, Int.reduceToNat, Int.reduceLT, Int.reduceLE, nF7, nF4, eF5, gF6, nF9, nF10, nF12, nF13]) (by simp (disch := (apply Apart.mk; decide)) only [go_sem, Nat.reduceAdd, Nat.reduceLT, Nat.reduceMul, Nat.reduceLeDiff, Int.reduceToNat, Int.reduceLT, Int.reduceLE, nF7, nF4, eF5, gF6, nF9, nF10, nF12, nF13]; rfl) (by rfl) ?_
          refine p_end (by simp (disch := (apply Apart.mk; decide)) only [go_sem, Nat.reduceAdd, Nat.reduceLT, Nat.reduceMul, Nat.reduceLeDiff, Int.reduceToNat, Int.reduceLT, Int.reduceLE, nF7, nF4, eF5, gF6, nF4, eF5, gF6, nF9, nF10, nF12, nF13]) ?_
          refine (w_bn (w_n ?_))
          refine A_region ?_
          exact (w_k ⟨((((((s1 ++ x1) ++ r1) ++ ([47] : Str)) ++ r2) ++ ([59, 10] : Str)), (IntKind.i64.wrap (i + (1 : Int)))), hr, (A_cut hwf)⟩)
        · refine A_condH hr (fun cF14 hr => ?_) (fun cF14 hr => ?_)
          · refine A_region ?_
            exact (w_k ⟨([98, 114, 101, 97, 107, 32] : Str), hr, (A_cut hwf)⟩)
          · refine w_skip ?_
            exact (w_k ⟨([107, 101, 101, 112, 32] : Str), hr, (A_cut hwf)⟩)
      · refine w_exit ?_
        exact (w_te (w_te (w_bx (w_k ⟨s1, (hr).map, (A_cut hwf)⟩))))
end Go.Val

/- part KW5 -/
/- The small thing that works is told by hand. -/
namespace Go.Val
theorem scansionlaw08_awake_runs {h : Heap} {u : Bool} (e : scansionlaw08_awake = some u) :
    Runs CT 5 [] h fun o h' => o = [.cv (.val (.bool u))] ∧ h' = h := by
  obtain rfl : true = u := Option.some.inj e
  exact Runs.hand (C := CT) (show handL 5 _ h _ h from ⟨rfl, .inr (.inr ⟨rfl, rfl, rfl⟩)⟩) ⟨rfl, rfl⟩
end Go.Val

/- part KW3 -/
/- scansion/scansionlaw08.SyntaxPrints runs as it is read off. -/
namespace Go.Val
set_option linter.unusedVariables false
set_option linter.unusedSimpArgs false
set_option maxRecDepth 20000
open Go.Proofs
theorem scansionlaw08_SyntaxPrints_runs (p : TProgram) {h : Heap} {a : Bool} (e : scansionlaw08_SyntaxPrints p = some a) :
    Runs CT 3 [.cv (.val (.agg [.sl (List.map (eL eRange) p.Sets), .sl (List.map eRule p.Rules)]))] h fun o h' => o = [.cv (.val (.bool a))] ∧ h' = h := by
  refine Runs.start Tryz.f3 _ Tryz.func3 rfl (by rw [Tryz.ntmps3]; simp) (by rfl) (by rfl) (fun hwf hu => ?_)
  obtain ⟨D, hD, hr⟩ : ∃ D : Bool → Prop, (∀ z, D z → z = a) ∧ Holds (scansionlaw08_SyntaxPrints p) D := ⟨fun z => z = a, fun _ h => h, Holds.intro e rfl⟩
  dsimp only [scansionlaw08_SyntaxPrints] at hr
  change wpCode _ _ _ _ _ ⟨[(0, .cv (.val (.agg [.sl (List.map (eL eRange) p.Sets), .sl (List.map eRule p.Rules)])))], h.on []⟩
  refine w_seq ?_
  refine A_region ?_
  refine w_n ?_
  refine w_seq ?_
  refine A_ops ?_
  obtain ⟨r, eF1, hr⟩ := hr.bind
  refine A_call (out := ?o_eF1) (hp := ?p_eF1) ?c_eF1 ?d_eF1 ?_
  case c_eF1 => exact scansionlaw08_awake_runs  eF1
  case d_eF1 => rfl
  refine A_ops_end ?_
  refine w_n ?_
  refine w_seq ?_
  refine A_ops ?_
  refine A_upto 1 ?_
  obtain ⟨r1, eF2, hr⟩ := hr.bind
  refine A_call (out := ?o_eF2) (hp := ?p_eF2) ?c_eF2 ?d_eF2 ?_
  case c_eF2 => exact scansionlaw08_few_runs p eF2
  case d_eF2 => rfl
  refine A_ops_end ?_
  refine w_n ?_
  refine w_seq ?_
  refine w_joinR (sj := ⟨[(1, .cv (.val (.ptr (some (h.n + 0, 0))))), (3, .cv (.val (.bool r))), (17, .cv (.val (.bool ((!r) || (!r1)))))], h.on [some (.cells [.val (.sl (List.map (eL eRange) p.Sets)), .val (.sl (List.map eRule p.Rules))])]⟩) (A_ops ?_) ?_
  · refine A_upto 3 ?_
    rcases Bool.eq_false_or_eq_true (!r) with cF3 | cF3
    · refine A_ops_end ?_
      exact w_k (A_cut hwf)
    · refine A_ops_end ?_
      exact w_k (A_cut hwf)
  refine A_condH hr (fun cF4 hr => ?_) (fun cF4 hr => ?_)
  · refine w_seq ?_
    refine A_region ?_
    refine w_n ?_
    refine w_ret ?_
    obtain rfl := hD _ hr
    exact (w_tr (A_endR (A_cut (os' := []) (sl := [(2, .cv (.val (.bool r)))]) hwf) ⟨rfl, on_nil hwf⟩))
  · refine w_skip ?_
    refine w_n ?_
    refine w_seq ?_
    refine A_ops ?_
    refine A_upto 1 ?_
    obtain ⟨r2, eF5, hr⟩ := hr.bind
    refine A_call (out := ?o_eF5) (hp := ?p_eF5) ?c_eF5 ?d_eF5 ?_
    case c_eF5 => exact syntax_Print_runs p eF5
    case d_eF5 => rfl
    refine A_ops_end ?_
    refine w_n ?_
    refine w_seq ?_
    refine A_ops ?_
    refine A_upto 1 ?_
    obtain ⟨r3, eF6, hr⟩ := hr.bind
    refine A_call (out := ?o_eF6) (hp := ?p_eF6) ?c_eF6 ?d_eF6 ?_
    case c_eF6 => exact scansionref08_Print_runs p eF6
    case d_eF6 => rfl
    refine A_ops_end ?_
    refine w_n ?_
    obtain ⟨v1, vF11, hr⟩ := hr.bind
    refine w_joinR (sj := ⟨[(2, .cv (.val (.bool v1)))], h.on []⟩) (w_drawn [0, 1, 2, 3, 4, 5, 6, 7, 8, 9, 10, 11, 13, 12, 14, 15, 16, 17] (by rfl) ?_) ?_
    · have hr := Holds.intro (D := fun z => z = v1) vF11 rfl
      refine p_run (l := [0, 1, 2, 3, 4, 5]) (pend' := [5, 4, 3, 2, 1, 0]) (by simp (disch := (apply Apart.mk; decide)) only [go_sem, Nat.reduceAdd, Nat.reduceLT, Nat.reduceMul, Nat.reduceLeDiff, Int.reduceToNat, Int.reduceLT, Int.reduceLE]; rfl) rfl ?_
      rcases hr.ite with ⟨cF7, hr⟩ | ⟨cF7, hr⟩
      · refine p_run (l := [6, 7, 8, 9, 10]) (pend' := [10, 9, 8, 7, 6, 5, 4, 3, 2, 1, 0]) (by simp (disch := (apply Apart.mk; decide)) only [go_sem, Nat.reduceAdd, Nat.reduceLT, Nat.reduceMul, Nat.reduceLeDiff, Int.reduceToNat, Int.reduceLT, Int.reduceLE, cF7]; rfl) rfl ?_
        rcases hr.ite with ⟨cF8, hr⟩ | ⟨cF8, hr⟩
        · refine p_run (l := [11, 13]) (pend' := [13, 11, 10, 9, 8, 7, 6, 5, 4, 3, 2, 1, 0]) (by simp (disch := (apply Apart.mk; decide)) only [go_sem, Nat.reduceAdd, Nat.reduceLT, Nat.reduceMul, Nat.reduceLeDiff, Int.reduceToNat, Int.reduceLT, Int.reduceLE, cF7, cF8]; rfl) rfl ?_
          obtain ⟨r4, eF9, hr⟩ := hr.bind
          refine p_call (out := ?o_eF9) (hp := ?p_eF9) (pend' := [13]) rfl (by simp (disch := (apply Apart.mk; decide)) only [go_sem, Nat.reduceAdd, Nat.reduceLT, Nat.reduceMul, Nat.reduceLeDiff, Int.reduceToNat, Int.reduceLT, Int.reduceLE, Option.getD_some, cF7, cF8]) (by simp (disch := (apply Apart.mk; decide)) only [go_sem, Nat.reduceAdd, Nat.reduceLT, Nat.reduceMul, Nat.reduceLeDiff, Int.reduceToNat, Int.reduceLT, Int.reduceLE, Option.getD_some, cF7, cF8]) (by simp (disch := (apply Apart.mk; decide)) only [go_sem, Nat.reduceAdd, Nat.reduceLT, Nat.reduceMul, Nat.reduceLeDiff, Int.reduceToNat, Int.reduceLT, Int.reduceLE, Option.getD_some, cF7, cF8]; rfl) (by simp (disch := (apply Apart.mk; decide)) only [go_sem, Nat.reduceAdd, Nat.reduceLT, Nat.reduceMul, Nat.reduceLeDiff, Int.reduceToNat, Int.reduceLT, Int.reduceLE, Option.getD_some, cF7, cF8]; rfl) (by simp (disch := (apply Apart.mk; decide)) only [go_sem, Nat.reduceAdd, Nat.reduceLT, Nat.reduceMul, Nat.reduceLeDiff, Int.reduceToNat, Int.reduceLT, Int.reduceLE, Option.getD_some, cF7, cF8]; rfl) (by rfl) ?c_eF9 ?d_eF9 ?_
          case c_eF9 => exact syntax_Right_runs p eF9
          case d_eF9 => rfl
          obtain ⟨r5, eF10, hr⟩ := hr.bind
          refine p_call (out := ?o_eF10) (hp := ?p_eF10) (pend' := []) rfl (by simp (disch := (apply Apart.mk; decide)) only [go_sem, Nat.reduceAdd, Nat.reduceLT, Nat.reduceMul, Nat.reduceLeDiff, Int.reduceToNat, Int.reduceLT, Int.reduceLE, Option.getD_some, cF7, cF8]) (by simp (disch := (apply Apart.mk; decide)) only [go_sem, Nat.reduceAdd, Nat.reduceLT, Nat.reduceMul, Nat.reduceLeDiff, Int.reduceToNat, Int.reduceLT, Int.reduceLE, Option.getD_some, cF7, cF8]) (by simp (disch := (apply Apart.mk; decide)) only [go_sem, Nat.reduceAdd, Nat.reduceLT, Nat.reduceMul, Nat.reduceLeDiff, Int.reduceToNat, Int.reduceLT, Int.reduceLE, Option.getD_some, cF7, cF8]; rfl) (by simp (disch := (apply Apart.mk; decide)) only [go_sem, Nat.reduceAdd, Nat.reduceLT, Nat.reduceMul, Nat.reduceLeDiff, Int.reduceToNat, Int.reduceLT, Int.reduceLE, Option.getD_some, cF7, cF8]; rfl) (by simp (disch := (apply Apart.mk; decide)) only [go_sem, Nat.reduceAdd, Nat.reduceLT, Nat.reduceMul, Nat.reduceLeDiff, Int.reduceToNat, Int.reduceLT, Int.reduceLE, Option.getD_some, cF7, cF8]; rfl) (by rfl) ?c_eF10 ?d_eF10 ?_
          case c_eF10 => exact scansionref08_Right_runs p eF10
          case d_eF10 => rfl
          refine p_run (l := [15, 16]) (pend' := [16, 15]) (by simp (disch := (apply Apart.mk; decide)) only [go_sem, Nat.reduceAdd, Nat.reduceLT, Nat.reduceMul, Nat.reduceLeDiff, Int.reduceToNat, Int.reduceLT, Int.reduceLE, cF7, cF8]; rfl) rfl ?_
          refine p_op (pend' := []) rfl (by simp (disch := (apply Apart.mk; decide)) only [go_sem, Nat.reduceAdd, Nat.reduceLT, Nat.reduceMul, Nat.reduceLeDiff, Int.reduceToNat, Int.reduceLT, Int.reduceLE, cF7, cF8]) (by simp (disch := (apply Apart.mk; decide)) only [go_sem, Nat.reduceAdd, Nat.reduceLT, Nat.reduceMul, Nat.reduceLeDiff, Int.reduceToNat, Int.reduceLT, Int.reduceLE, cF7, cF8]; rfl) (by rfl) ?_
          refine p_end (by simp (disch := (apply Apart.mk; decide)) only [go_sem, Nat.reduceAdd, Nat.reduceLT, Nat.reduceMul, Nat.reduceLeDiff, Int.reduceToNat, Int.reduceLT, Int.reduceLE, cF7, cF8]) ?_
          obtain rfl : _ = v1 := hr
          exact w_k (A_cut hwf)
        · refine p_run (l := [11, 13]) (pend' := [13, 11, 10, 9, 8, 7, 6, 5, 4, 3, 2, 1, 0]) (by simp (disch := (apply Apart.mk; decide)) only [go_sem, Nat.reduceAdd, Nat.reduceLT, Nat.reduceMul, Nat.reduceLeDiff, Int.reduceToNat, Int.reduceLT, Int.reduceLE, cF7, cF8]; rfl) rfl ?_
          refine p_op (pend' := [13]) rfl (by simp (disch := (apply Apart.mk; decide)) only [go_sem, Nat.reduceAdd, Nat.reduceLT, Nat.reduceMul, Nat.reduceLeDiff, Int.reduceToNat, Int.reduceLT, Int.reduceLE, cF7, cF8]) (by simp (disch := (apply Apart.mk; decide)) only [go_sem, Nat.reduceAdd, Nat.reduceLT, Nat.reduceMul, Nat.reduceLeDiff, Int.reduceToNat, Int.reduceLT, Int.reduceLE, cF7, cF8]; rfl) (by rfl) ?_
          refine p_op (pend' := []) rfl (by simp (disch := (apply Apart.mk; decide)) only [go_sem, Nat.reduceAdd, Nat.reduceLT, Nat.reduceMul, Nat.reduceLeDiff, Int.reduceToNat, Int.reduceLT, Int.reduceLE, cF7, cF8]) (by simp (disch := (apply Apart.mk; decide)) only [go_sem, Nat.reduceAdd, Nat.reduceLT, Nat.reduceMul, Nat.reduceLeDiff, Int.reduceToNat, Int.reduceLT, Int.reduceLE, cF7, cF8]; rfl) (by rfl) ?_
          refine p_run (l := [15, 16]) (pend' := [16, 15]) (by simp (disch := (apply Apart.mk; decide)) only [go_sem, Nat.reduceAdd, Nat.reduceLT, Nat.reduceMul, Nat.reduceLeDiff, Int.reduceToNat, Int.reduceLT, Int.reduceLE, cF7, cF8]; rfl) rfl ?_
          refine p_op (pend' := []) rfl (by simp (disch := (apply Apart.mk; decide)) only [go_sem, Nat.reduceAdd, Nat.reduceLT, Nat.reduceMul, Nat.reduceLeDiff, Int.reduceToNat, Int.reduceLT, Int.reduceLE, cF7, cF8]) (by simp (disch := (apply Apart.mk; decide)) only [go_sem, Nat.reduceAdd, Nat.reduceLT, Nat.reduceMul, Nat.reduceLeDiff, Int.reduceToNat, Int.reduceLT, Int.reduceLE, cF7, cF8]; rfl) (by rfl) ?_
          refine p_end (by simp (disch := (apply Apart.mk; decide)) only [go_sem, Nat.reduceAdd, Nat.reduceLT, Nat.reduceMul, Nat.reduceLeDiff, Int.reduceToNat, Int.reduceLT, Int.reduceLE, cF7, cF8]) ?_
          obtain rfl : _ = v1 := hr
          exact w_k (A_cut hwf)
      · refine p_run (l := [6, 7, 8, 9, 10, 11, 13]) (pend' := [13, 11, 10, 9, 8, 7, 6, 5, 4, 3, 2, 1, 0]) (by simp (disch := (apply Apart.mk; decide)) only [go_sem, Nat.reduceAdd, Nat.reduceLT, Nat.reduceMul, Nat.reduceLeDiff, Int.reduceToNat, Int.reduceLT, Int.reduceLE, cF7]; rfl) rfl ?_
        refine p_op (pend' := [13]) rfl (by simp (disch := (apply Apart.mk; decide)) only [go_sem, Nat.reduceAdd, Nat.reduceLT, Nat.reduceMul, Nat.reduceLeDiff, Int.reduceToNat, Int.reduceLT, Int.reduceLE, cF7]) (by simp (disch := (apply Apart.mk; decide)) only [go_sem, Nat.reduceAdd, Nat.reduceLT, Nat.reduceMul, Nat.reduceLeDiff, Int.reduceToNat, Int.reduceLT, Int.reduceLE, cF7]; rfl) (by rfl) ?_
        refine p_op (pend' := []) rfl (by simp (disch := (apply Apart.mk; decide)) only [go_sem, Nat.reduceAdd, Nat.reduceLT, Nat.reduceMul, Nat.reduceLeDiff, Int.reduceToNat, Int.reduceLT, Int.reduceLE, cF7]) (by simp (disch := (apply Apart.mk; decide)) only [go_sem, Nat.reduceAdd, Nat.reduceLT, Nat.reduceMul, Nat.reduceLeDiff, Int.reduceToNat, Int.reduceLT, Int.reduceLE, cF7]; rfl) (by rfl) ?_
        refine p_run (l := [15, 16]) (pend' := [16, 15]) (by simp (disch := (apply Apart.mk; decide)) only [go_sem, Nat.reduceAdd, Nat.reduceLT, Nat.reduceMul, Nat.reduceLeDiff, Int.reduceToNat, Int.reduceLT, Int.reduceLE, cF7]; rfl) rfl ?_
        refine p_op (pend' := []) rfl (by simp (disch := (apply Apart.mk; decide)) only [go_sem, Nat.reduceAdd, Nat.reduceLT, Nat.reduceMul, Nat.reduceLeDiff, Int.reduceToNat, Int.reduceLT, Int.reduceLE, cF7]) (by simp (disch := (apply Apart.mk; decide)) only [go_sem, Nat.reduceAdd, Nat.reduceLT, Nat.reduceMul, Nat.reduceLeDiff, Int.reduceToNat, Int.reduceLT, Int.reduceLE, cF7]; rfl) (by rfl) ?_
        refine p_end (by simp (disch := (apply Apart.mk; decide)) only [go_sem, Nat.reduceAdd, Nat.reduceLT, Nat.reduceMul, Nat.reduceLeDiff, Int.reduceToNat, Int.reduceLT, Int.reduceLE, cF7]) ?_
        obtain rfl : _ = v1 := hr
        exact w_k (A_cut hwf)
    refine w_ret ?_
    obtain rfl := hD _ hr
    exact (A_endR (A_cut (os' := []) (sl := [(2, .cv (.val (.bool v1)))]) hwf) ⟨rfl, on_nil hwf⟩)
end Go.Val

/- part Q3k -/
/- Plain lemmas: Has, Count and Nth of ranges. -/
namespace Go.Val
set_option linter.unusedVariables false
theorem Norm.short : ∀ {l : List TRange} {lo : Int}, Norm l → (∀ x ∈ l, lo ≤ x.Low) → (l.length : Int) ≤ max 0 (1114112 - lo)
  | [], lo, _, _ => by simp; omega
  | x :: l, lo, h, hlo => by
    obtain ⟨h1, h2, h3⟩ := Norm_cons.1 h
    unfold Ok at h1
    have := Norm.short h3 (lo := x.High + 2) (fun y hy => by have := h2 y hy; omega)
    have := hlo x (by simp)
    simp only [List.length_cons]
    omega
theorem Norm.len {l : List TRange} (h : Norm l) : l.length ≤ 1114112 := by
  have := h.short (lo := 0) (fun x hx => (h.1 x hx).1)
  omega
theorem Norm.sep : ∀ {a : List TRange}, Norm a → ∀ x ∈ a, ∀ z ∈ a, z = x ∨ z.High + 1 < x.Low ∨ x.High + 1 < z.Low
  | [], _, x, hx, _, _ => by cases hx
  | y :: l, h, x, hx, z, hz => by
    obtain ⟨h1, h2, h3⟩ := Norm_cons.1 h
    rcases List.mem_cons.1 hx with e1 | hx1
    · rcases List.mem_cons.1 hz with e2 | hz1
      · exact .inl (e2.trans e1.symm)
      · rw [e1]; exact .inr (.inr (h2 z hz1))
    · rcases List.mem_cons.1 hz with e2 | hz1
      · rw [e2]; exact .inr (.inl (h2 x hx1))
      · exact Norm.sep h3 x hx1 z hz1
theorem Norm.below {a : List TRange} (h : Norm a) {x : TRange} (hx : x ∈ a) : ¬ In a (x.Low - 1) := by
  rintro ⟨z, hz, h1, h2⟩
  have k1 := h.1 x hx
  have k2 := h.1 z hz
  unfold Ok at k1 k2
  rcases h.sep x hx z hz with e | e | e
  · subst e; omega
  · omega
  · omega
theorem Norm.take {a : List TRange} (h : Norm a) (k : Nat) : Norm (a.take k) := ⟨fun x hx => h.1 x (List.mem_of_mem_take hx), h.2.sublist (List.take_sublist _ _)⟩
theorem Norm.drop {a : List TRange} (h : Norm a) (k : Nat) : Norm (a.drop k) := ⟨fun x hx => h.1 x (List.mem_of_mem_drop hx), h.2.sublist (List.drop_sublist _ _)⟩
def hasB (a : List TRange) (r : Int) : Bool := a.any fun x => decide (x.Low ≤ r) && decide (r ≤ x.High)
theorem hasB_iff {a : List TRange} {r : Int} : hasB a r = true ↔ In a r := by
  simp [hasB, In]
/-! ### Has -/
/-- The document's Has. -/
theorem refHas_eq {a : List TRange} (hl : a.length < 9223372036854775807) (r : Int) : scansionref02_Has a r = some (hasB a r) := by
  have := Loop_all0 (b := scansionref02_Has.b1 a r) (fun j => ∀ x, a[j]? = some x → ¬ (x.Low ≤ r ∧ r ≤ x.High)) a.length (r := true) (R := false) (fun j hj hp => ?_) (fun j hj hp => ?_) ?_
  · unfold scansionref02_Has
    by_cases h : ∀ j, j < a.length → ∀ x, a[j]? = some x → ¬ (x.Low ≤ r ∧ r ≤ x.High)
    · rw [this.1 h]
      congr 1
      symm
      rw [← Bool.not_eq_true, hasB_iff]
      rintro ⟨x, hx, h1⟩
      obtain ⟨k, hk, rfl⟩ := List.getElem_of_mem hx
      exact h k hk _ (List.getElem?_eq_getElem hk) h1
    · rw [this.2 h]
      congr 1
      symm
      rw [hasB_iff]
      simp only [Classical.not_forall, Classical.not_not] at h
      obtain ⟨j, hj, x, hx, h1⟩ := h
      exact ⟨x, List.mem_of_getElem? hx, h1⟩
  · have hx : a[j]? = some a[j] := List.getElem?_eq_getElem hj
    have h1 := hp _ hx
    rw [scansionref02_Has.b1, if_pos (by simpa using hj), idx_nat, hx, Option.bind_some]
    by_cases h2 : r ≥ a[j].Low
    · rw [if_pos (by simpa using h2), Option.bind_some, if_neg (by simp; omega), w64s (by omega)]
    · rw [if_neg (by simpa using h2), Option.bind_some, if_neg (by simp), w64s (by omega)]
  · have hx : a[j]? = some a[j] := List.getElem?_eq_getElem hj
    have h1 : a[j].Low ≤ r ∧ r ≤ a[j].High := Classical.not_not.1 fun hn => hp fun x hx' => by rw [hx] at hx'; cases hx'; exact hn
    rw [scansionref02_Has.b1, if_pos (by simpa using hj), idx_nat, hx, Option.bind_some, if_pos (by simpa using h1.1), Option.bind_some, if_pos (by simpa using h1.2)]
  · rw [scansionref02_Has.b1, if_neg (by simp)]; rfl

/-! ### Count, Nth -/
def many (x : TRange) : Int := x.High - x.Low + 1
end Go.Val

/- part Q4k -/
/- Plain lemmas: the document's sets (edges, pick). -/
namespace Go.Val
set_option linter.unusedVariables false
theorem take_snocR {α : Type} {l : List α} {s : Nat} {x : α} (h : l[s]? = some x) : l.take (s + 1) = l.take s ++ [x] := by
  rw [List.take_add_one, h]; rfl
theorem rising_spec {l : List Int} {n : Int} (hp : l.Pairwise (· < ·)) (hl : (l.length + 1) * 8 ≤ 140737488355328) :
    ∃ l', scansionref02_rising l n = some l' ∧ l'.Pairwise (· < ·) ∧ (∀ x, x ∈ l' ↔ x ∈ l ∨ x = n) ∧ l'.length ≤ l.length + 1 := by
  refine Loop_spec (body := scansionref02_rising.b1 l n) (fun v : Int => ∃ k : Nat, v = (k : Int) ∧ k ≤ l.length ∧ ∀ j, j < k → ∀ x, l[j]? = some x → x < n) (fun v => l.length - v.toNat) (fun s hs => ?_) _ ⟨0, rfl, Nat.zero_le _, fun j hj => absurd hj (by omega)⟩
  obtain ⟨k, rfl, hk, hlo⟩ := hs
  simp only [scansionref02_rising.b1]
  have hpw := List.pairwise_iff_getElem.1 hp
  by_cases hc : ∃ x, l[k]? = some x ∧ x < n
  · left
    obtain ⟨x, hx, hxn⟩ := hc
    have hkl : k < l.length := (List.getElem?_eq_some_iff.1 hx).1
    refine ⟨((k + 1 : Nat) : Int), ?_, ⟨k + 1, rfl, hkl, fun j hj y hy => ?_⟩, by omega⟩
    · rw [if_pos (by simpa using hkl), idx_nat, hx, Option.bind_some, Option.bind_some, if_pos (by simpa using hxn), w64s (by omega)]
    · by_cases e : j = k
      · subst e; rw [hx] at hy; cases hy; exact hxn
      · exact hlo j (by omega) y hy
  · right
    have hge : ∀ x, l[k]? = some x → n ≤ x := fun x hx => by
      rcases Int.lt_or_le x n with h | h
      · exact absurd ⟨x, hx, h⟩ hc
      · exact h
    have hv : ((if (decide (((k : Nat) : Int) < (l.length : Int))) then
        (idx l ((k : Nat) : Int)).bind fun n2 =>
        some (decide (n2 < n))
      else
        some false)) = some false := by
      by_cases hkl : k < l.length
      · have hx : l[k]? = some l[k] := List.getElem?_eq_getElem hkl
        rw [if_pos (by simpa using hkl), idx_nat, hx, Option.bind_some]
        have := hge _ hx
        rw [decide_eq_false (by omega)]
      · rw [if_neg (by simpa using hkl)]
    rw [hv, Option.bind_some, if_neg (by simp)]
    unfold scansionref02_rising.k1
    by_cases he : l[k]? = some n
    · have hkl : k < l.length := (List.getElem?_eq_some_iff.1 he).1
      refine ⟨l, ?_, hp, fun x => ⟨.inl, fun h => h.elim id fun e => by subst e; exact List.mem_of_getElem? he⟩, by omega⟩
      rw [if_pos (by simpa using hkl), idx_nat, he, Option.bind_some, Option.bind_some, if_pos (by simp)]; rfl
    · have hv2 : ((if (decide (((k : Nat) : Int) < (l.length : Int))) then
          (idx l ((k : Nat) : Int)).bind fun n1 =>
          some (n1 == n)
        else
          some false)) = some false := by
        by_cases hkl : k < l.length
        · have hx : l[k]? = some l[k] := List.getElem?_eq_getElem hkl
          rw [if_pos (by simpa using hkl), idx_nat, hx, Option.bind_some]
          rw [hx] at he
          congr 1
          rw [beq_eq_false_iff_ne]
          exact fun e => he (by rw [e])
        · rw [if_neg (by simpa using hkl)]
      have hgt : ∀ j, k ≤ j → ∀ x, l[j]? = some x → n < x := fun j hj x hx => by
        have hjl : j < l.length := (List.getElem?_eq_some_iff.1 hx).1
        have hxe : l[j] = x := (List.getElem?_eq_some_iff.1 hx).2
        have hkl : k < l.length := by omega
        have h1 := hge _ (List.getElem?_eq_getElem hkl)
        have h2 : l[k] ≠ n := fun e => he (by rw [List.getElem?_eq_getElem hkl, e])
        by_cases e : j = k
        · subst e; rw [hxe] at h1 h2; omega
        · have := hpw k j hkl hjl (by omega)
          rw [hxe] at this; omega
      have hch : cutH l (k : Int) = some (l.take k) := by unfold cutH; rw [if_pos ⟨by omega, by omega⟩]; simp
      have hcl : cutL l (k : Int) = some (l.drop k) := by unfold cutL; rw [if_pos ⟨by omega, by omega⟩]; simp
      have ht : (l.take k).length = k := by simp; omega
      have hd : (l.drop k).length = l.length - k := by simp
      refine ⟨l.take k ++ [n] ++ l.drop k, ?_, ?_, fun x => ?_, by simp; omega⟩
      · rw [hv2, Option.bind_some, if_neg (by simp), hch, Option.bind_some, show (Int.toNat (k : Int)) = k by simp, room_ok (by omega), Option.bind_some, room_ok (by omega), Option.bind_some, hcl, Option.bind_some, room_ok (by omega), Option.bind_some]; rfl
      · rw [List.pairwise_append, List.pairwise_append]
        refine ⟨⟨hp.sublist (List.take_sublist _ _), List.pairwise_singleton _ _, fun x hx y hy => ?_⟩, hp.sublist (List.drop_sublist _ _), fun x hx y hy => ?_⟩
        · simp at hy; subst hy
          obtain ⟨j, hj, rfl⟩ := List.getElem_of_mem hx
          rw [List.getElem_take]
          exact hlo j (by omega) _ (List.getElem?_eq_getElem _)
        · obtain ⟨j, hj, rfl⟩ := List.getElem_of_mem hy
          rw [List.getElem_drop]
          have hyn := hgt (k + j) (by omega) _ (List.getElem?_eq_getElem (by omega))
          rcases List.mem_append.1 hx with hx | hx
          · obtain ⟨i, hi, rfl⟩ := List.getElem_of_mem hx
            rw [List.getElem_take]
            have := hlo i (by omega) _ (List.getElem?_eq_getElem (by omega))
            omega
          · simp at hx; subst hx; exact hyn
      · have hm : x ∈ l ↔ x ∈ l.take k ∨ x ∈ l.drop k := by
          conv => lhs; rw [← List.take_append_drop k l]
          exact List.mem_append
        simp only [List.mem_append, List.mem_singleton, hm]
        constructor
        · rintro ((h | h) | h)
          · exact .inl (.inl h)
          · exact .inr h
          · exact .inl (.inr h)
        · rintro ((h | h) | h)
          · exact .inl (.inl h)
          · exact .inr h
          · exact .inl (.inr h)
/-- Where something may begin. -/
def Edge (m : List TRange) (e : Int) : Prop := e = 0 ∨ ∃ x ∈ m, e = x.Low ∨ (x.High < 1114111 ∧ e = x.High + 1)
theorem Edge_snoc {m : List TRange} {x : TRange} {e : Int} : Edge (m ++ [x]) e ↔ (Edge m e ∨ e = x.Low) ∨ (x.High < 1114111 ∧ e = x.High + 1) := by
  unfold Edge
  constructor
  · rintro (h | ⟨y, hy, h⟩)
    · exact .inl (.inl (.inl h))
    · rcases List.mem_append.1 hy with hy | hy
      · exact .inl (.inl (.inr ⟨y, hy, h⟩))
      · simp at hy; subst hy
        rcases h with h | h
        · exact .inl (.inr h)
        · exact .inr h
  · rintro (((h | ⟨y, hy, h⟩) | h) | h)
    · exact .inl h
    · exact .inr ⟨y, by simp [hy], h⟩
    · exact .inr ⟨x, by simp, .inl h⟩
    · exact .inr ⟨x, by simp, .inr h⟩
theorem edges_spec {a b : List TRange} (ha : ∀ x ∈ a, Ok x) (hb : ∀ x ∈ b, Ok x) (hl : a.length + b.length ≤ 4000000) :
    ∃ E, scansionref02_edges a b = some E ∧ E.Pairwise (· < ·) ∧ (∀ e, e ∈ E ↔ Edge (a ++ b) e) ∧ E.length ≤ 2 * (a.length + b.length) + 1 := by
  have hlen : (a ++ b).length = a.length + b.length := by simp
  have hok : ∀ x ∈ a ++ b, Ok x := fun x hx => (List.mem_append.1 hx).elim (ha x) (hb x)
  unfold scansionref02_edges
  rw [room_ok (by omega), Option.bind_some, room_ok (by omega), Option.bind_some]
  refine Loop_spec (body := scansionref02_edges.b1 a b) (fun p : List Int × Int => ∃ k : Nat, p.2 = (k : Int) ∧ k ≤ (a ++ b).length ∧ p.1.Pairwise (· < ·) ∧ (∀ e, e ∈ p.1 ↔ Edge ((a ++ b).take k) e) ∧ p.1.length ≤ 2 * k + 1) (fun p => (a ++ b).length - p.2.toNat) (fun p hp => ?_) _
    ⟨0, rfl, Nat.zero_le _, List.pairwise_singleton _ _, fun e => by simp [Edge], by simp⟩
  obtain ⟨out, v⟩ := p
  obtain ⟨k, e, hk, hpw, hm, hol⟩ := hp
  simp only at e hpw hm hol
  subst e
  generalize hL : a ++ b = L at *
  simp only [scansionref02_edges.b1, hL]
  by_cases h : k < L.length
  · left
    have hx : L[k]? = some L[k] := List.getElem?_eq_getElem h
    have o := hok _ (List.getElem_mem h)
    unfold Ok at o
    obtain ⟨r, r1, r2, r3, r4⟩ := rising_spec (n := L[k].Low) hpw (by omega)
    rw [if_pos (by simpa using h), idx_nat, hx, Option.bind_some, r1, Option.bind_some]
    by_cases hh : L[k].High < 1114111
    · obtain ⟨q, q1, q2, q3, q4⟩ := rising_spec (n := L[k].High + 1) r2 (by omega)
      refine ⟨(q, ((k + 1 : Nat) : Int)), ?_, ⟨k + 1, rfl, h, q2, fun e => ?_, by simp only; omega⟩, by simp only; omega⟩
      · rw [if_pos (by simpa using hh), w64 (by omega) (by omega), q1, Option.bind_some]
        unfold scansionref02_edges.k2
        rw [w64s (by omega)]
      · simp only
        rw [q3, r3, hm, take_snocR hx, Edge_snoc]
        constructor
        · rintro (h | h)
          · exact .inl h
          · exact .inr ⟨hh, h⟩
        · rintro (h | h)
          · exact .inl h
          · exact .inr h.2
    · refine ⟨(r, ((k + 1 : Nat) : Int)), ?_, ⟨k + 1, rfl, h, r2, fun e => ?_, by simp only; omega⟩, by simp only; omega⟩
      · rw [if_neg (by simpa using hh)]
        unfold scansionref02_edges.k2
        rw [w64s (by omega)]
      · simp only
        rw [r3, hm, take_snocR hx, Edge_snoc]
        constructor
        · exact .inl
        · rintro (h | h)
          · exact h
          · exact absurd h.1 hh
  · right
    obtain rfl : k = L.length := by omega
    refine ⟨out, ?_, hpw, fun e => ?_, by omega⟩
    · rw [if_neg (by simp)]; rfl
    · rw [hm, List.take_length]
theorem with_spec {out : List TRange} {low high : Int} (hn : Norm out) (h0 : 0 ≤ low) (h1 : low ≤ high) (h2 : high ≤ 1114111) (hl : ∀ y ∈ out, y.High < low) :
    ∃ out', scansionref02_with out low high = some out' ∧ Norm out' ∧ ∀ r, In out' r ↔ In out r ∨ (low ≤ r ∧ r ≤ high) := by
  have hlen := hn.len
  rcases List.eq_nil_or_concat out with rfl | ⟨init, y, rfl⟩
  · refine ⟨[⟨low, high⟩], ?_, Norm_snoc (l := []).2 ⟨Norm_nil, ⟨h0, h1, h2⟩, fun y h => by cases h⟩, fun r => ?_⟩
    · unfold scansionref02_with
      rw [if_neg (by simp), Option.bind_some, if_neg (by simp), room_ok (by simp), Option.bind_some]; rfl
    · rw [In_one]; exact ⟨.inr, fun h => h.elim (fun h => absurd h In_nil) id⟩
  · rw [List.concat_eq_append] at *
    have hlen' : (init ++ [y]).length = init.length + 1 := by simp
    obtain ⟨n1, n2, n3⟩ := Norm_snoc.1 hn
    have hyo := n2
    unfold Ok at hyo
    have hyl := hl y (by simp)
    have hi : (init ++ [y])[init.length]? = some y := by simp
    have hw : IntKind.i64.wrap (((init ++ [y]).length : Int) - 1) = (init.length : Int) := by rw [hlen']; exact len_pred (by omega)
    have hcond : (if (decide (((init ++ [y]).length : Int) > (0 : Int))) then
      (idx (init ++ [y]) (IntKind.i64.wrap (((init ++ [y]).length : Int) - (1 : Int)))).bind fun x =>
      some (x.High == (IntKind.i64.wrap (low - (1 : Int))))
    else
      some false) = some (y.High == low - 1) := by
      rw [if_pos (by simp), hw, idx_nat, hi, Option.bind_some, w64 (by omega) (by omega)]
    by_cases hc : y.High = low - 1
    · refine ⟨init ++ [⟨y.Low, high⟩], ?_, Norm_snoc.2 ⟨n1, ⟨(show 0 ≤ y.Low by omega), (show y.Low ≤ high by omega), h2⟩, n3⟩, fun r => ?_⟩
      · unfold scansionref02_with
        rw [hcond, Option.bind_some, if_pos (by simpa using hc), hw, idx_nat, hi, Option.bind_some]
        simp
      · rw [In_append, In_append, In_one, In_one]
        show In init r ∨ (y.Low ≤ r ∧ r ≤ high) ↔ (In init r ∨ (y.Low ≤ r ∧ r ≤ y.High)) ∨ (low ≤ r ∧ r ≤ high)
        constructor
        · rintro (h | ⟨h3, h4⟩)
          · exact .inl (.inl h)
          · by_cases h5 : r ≤ y.High
            · exact .inl (.inr ⟨h3, h5⟩)
            · exact .inr ⟨by omega, by omega⟩
        · rintro ((h | ⟨h3, h4⟩) | ⟨h3, h4⟩)
          · exact .inl h
          · exact .inr ⟨h3, by omega⟩
          · exact .inr ⟨by omega, by omega⟩
    · refine ⟨init ++ [y] ++ [⟨low, high⟩], ?_, Norm_snoc.2 ⟨hn, ⟨h0, h1, h2⟩, fun z hz => ?_⟩, fun r => ?_⟩
      · unfold scansionref02_with
        rw [hcond, Option.bind_some, if_neg (by simpa using hc), room_ok (by omega), Option.bind_some]
      · show z.High + 1 < low
        rcases List.mem_append.1 hz with hz | hz
        · have := n3 z hz; omega
        · simp at hz; subst hz; omega
      · rw [In_append, In_one]
end Go.Val

/- part Q5k -/
/- Plain lemmas: the document's Or, And, Less, Not, Make. -/
namespace Go.Val
set_option linter.unusedVariables false
/-- What is taken. -/
def kindP (kind : Int) (one two : Bool) : Bool := if kind = 1 then one && two else if kind = 2 then one && !two else if kind = 3 then !one && !two else one || two
/-- Where a piece ends: the next edge; the end of all. -/
def bnd (E : List Int) (k : Nat) : Int := (E[k]?).getD 1114112
theorem bnd_at {E : List Int} {k : Nat} (h : k < E.length) : bnd E k = E[k] := by unfold bnd; rw [List.getElem?_eq_getElem h]; rfl
theorem bnd_end {E : List Int} : bnd E E.length = 1114112 := by unfold bnd; rw [List.getElem?_eq_none (Nat.le_refl _)]; rfl
theorem bnd_split {E : List Int} (hp : E.Pairwise (· < ·)) {k : Nat} (h : k < E.length) {e : Int} (he : e ∈ E) : e ≤ E[k] ∨ bnd E (k + 1) ≤ e := by
  obtain ⟨j, hj, rfl⟩ := List.getElem_of_mem he
  have hpw := List.pairwise_iff_getElem.1 hp
  by_cases h1 : j < k
  · exact .inl (by have := hpw j k hj h h1; omega)
  · by_cases h2 : j = k
    · subst h2; exact .inl (Int.le_refl _)
    · right
      rw [bnd_at (by omega)]
      by_cases h3 : j = k + 1
      · subst h3; exact Int.le_refl _
      · have := hpw (k + 1) j (by omega) hj (by omega); omega
theorem bnd_lt {E : List Int} (hp : E.Pairwise (· < ·)) (hE : ∀ e ∈ E, e ≤ 1114111) {k : Nat} (h : k < E.length) : E[k] < bnd E (k + 1) := by
  by_cases h1 : k + 1 < E.length
  · rw [bnd_at h1]; exact List.pairwise_iff_getElem.1 hp k (k + 1) h h1 (by omega)
  · rw [show k + 1 = E.length by omega, bnd_end]
    have := hE _ (List.getElem_mem h); omega
theorem Edge_bound {m : List TRange} (hm : ∀ x ∈ m, Ok x) {e : Int} (h : Edge m e) : 0 ≤ e ∧ e ≤ 1114111 := by
  rcases h with rfl | ⟨x, hx, h⟩
  · omega
  · have := hm x hx
    unfold Ok at this
    rcases h with rfl | ⟨h, rfl⟩ <;> omega
/-- Between two edges nothing turns. -/
theorem const_at {m L : List TRange} {E : List Int} (hm : ∀ x ∈ L, Ok x) (hp : E.Pairwise (· < ·)) (hE : ∀ e, e ∈ E ↔ Edge L e) (hs : ∀ x ∈ m, x ∈ L) {k : Nat} (h : k < E.length) {t : Int} (h1 : E[k] ≤ t) (h2 : t < bnd E (k + 1)) (h3 : t ≤ 1114111) :
    hasB m t = hasB m E[k] := by
  rw [Bool.eq_iff_iff, hasB_iff, hasB_iff]
  have key : ∀ x ∈ m, (x.Low ≤ t ∧ t ≤ x.High) ↔ (x.Low ≤ E[k] ∧ E[k] ≤ x.High) := fun x hx => by
    have o := hm x (hs x hx)
    unfold Ok at o
    have k1 := bnd_split hp h ((hE x.Low).2 (.inr ⟨x, hs x hx, .inl rfl⟩))
    by_cases hh : x.High < 1114111
    · have k2 := bnd_split hp h ((hE (x.High + 1)).2 (.inr ⟨x, hs x hx, .inr ⟨hh, rfl⟩⟩))
      omega
    · omega
  constructor
  · rintro ⟨x, hx, h⟩; exact ⟨x, hx, (key x hx).1 h⟩
  · rintro ⟨x, hx, h⟩; exact ⟨x, hx, (key x hx).2 h⟩
theorem pick_k3 {a b : List TRange} {kind : Int} {E : List Int} {out : List TRange} {k : Nat} {high : Int} (h : k < E.length) (ha : a.length ≤ 4000000) (hb : b.length ≤ 4000000) :
    scansionref02_pick.k3 a b kind E out (k : Int) high = scansionref02_pick.k4 out k high E[k] (kindP kind (hasB a E[k]) (hasB b E[k])) := by
  unfold scansionref02_pick.k3 kindP
  rw [idx_nat, List.getElem?_eq_getElem h, Option.bind_some, refHas_eq (by omega), Option.bind_some, refHas_eq (by omega), Option.bind_some]
  generalize hasB a E[k] = p
  generalize hasB b E[k] = q
  by_cases h1 : kind = 1
  · subst h1; cases p <;> rfl
  · rw [if_neg (by simpa using h1), if_neg h1]
    by_cases h2 : kind = 2
    · subst h2; cases p <;> rfl
    · rw [if_neg (by simpa using h2), if_neg h2]
      by_cases h3 : kind = 3
      · subst h3; cases p <;> rfl
      · rw [if_neg (by simpa using h3), if_neg h3]
theorem pick_spec {a b : List TRange} {kind : Int} (ha : ∀ x ∈ a, Ok x) (hb : ∀ x ∈ b, Ok x) (hl : a.length + b.length ≤ 4000000) :
    ∃ out, scansionref02_pick a b kind = some out ∧ Norm out ∧ ∀ t, In out t ↔ (0 ≤ t ∧ t ≤ 1114111 ∧ kindP kind (hasB a t) (hasB b t) = true) := by
  obtain ⟨E, e1, e2, e3, e4⟩ := edges_spec ha hb hl
  have hok : ∀ x ∈ a ++ b, Ok x := fun x hx => (List.mem_append.1 hx).elim (ha x) (hb x)
  have hbd : ∀ e ∈ E, 0 ≤ e ∧ e ≤ 1114111 := fun e he => Edge_bound hok ((e3 e).1 he)
  have h0 : 0 < E.length := List.length_pos_of_mem ((e3 0).2 (.inl rfl))
  have hE0 : bnd E 0 = 0 := by
    rw [bnd_at h0]
    have k1 := hbd _ (List.getElem_mem h0)
    obtain ⟨j, hj, hje⟩ := List.getElem_of_mem ((e3 0).2 (.inl rfl))
    by_cases h : j = 0
    · subst h; exact hje
    · have := List.pairwise_iff_getElem.1 e2 0 j h0 hj (by omega); omega
  unfold scansionref02_pick
  rw [e1, Option.bind_some]
  refine Loop_spec (body := scansionref02_pick.b1 a b kind E) (fun p : List TRange × Int => ∃ k : Nat, p.2 = (k : Int) ∧ k ≤ E.length ∧ Norm p.1 ∧ ∀ t, In p.1 t ↔ (0 ≤ t ∧ t < bnd E k ∧ kindP kind (hasB a t) (hasB b t) = true)) (fun p => E.length - p.2.toNat) (fun p hp => ?_) _
    ⟨0, rfl, Nat.zero_le _, Norm_nil, fun t => ⟨fun h => absurd h In_nil, fun h => by rw [hE0] at h; omega⟩⟩
  obtain ⟨out, v⟩ := p
  obtain ⟨k, e, hk, hn, hin⟩ := hp
  simp only at e hn hin
  subst e
  simp only [scansionref02_pick.b1]
  by_cases h : k < E.length
  · left
    have hlt := bnd_lt e2 (fun e he => (hbd e he).2) h
    have hE := hbd _ (List.getElem_mem h)
    have hnext : bnd E (k + 1) ≤ 1114112 := by
      by_cases h1 : k + 1 < E.length
      · rw [bnd_at h1]; have := hbd _ (List.getElem_mem h1); omega
      · rw [show k + 1 = E.length by omega, bnd_end]; omega
    have hhigh : (if (decide ((IntKind.i64.wrap ((k : Int) + (1 : Int))) < (E.length : Int))) then
        (idx E (IntKind.i64.wrap ((k : Int) + (1 : Int)))).bind fun n1 =>
        scansionref02_pick.k3 a b kind E out (k : Int) (IntKind.i64.wrap (n1 - (1 : Int)))
      else
        scansionref02_pick.k3 a b kind E out (k : Int) (1114111 : Int)) = scansionref02_pick.k3 a b kind E out (k : Int) (bnd E (k + 1) - 1) := by
      rw [w64s (by omega)]
      by_cases h1 : k + 1 < E.length
      · have := hbd _ (List.getElem_mem h1)
        rw [if_pos (by simp; omega), idx_nat, List.getElem?_eq_getElem h1, Option.bind_some, bnd_at h1, w64 (by omega) (by omega)]
      · rw [if_neg (by simp; omega), show k + 1 = E.length by omega, bnd_end]; rfl
    rw [if_pos (by simpa using h), hhigh, pick_k3 h (by omega) (by omega)]
    unfold scansionref02_pick.k4 scansionref02_pick.k2
    have hconst : ∀ t, E[k] ≤ t → t < bnd E (k + 1) → kindP kind (hasB a t) (hasB b t) = kindP kind (hasB a E[k]) (hasB b E[k]) := fun t h1 h2 => by
      rw [const_at hok e2 e3 (fun x hx => by simp [hx]) h h1 h2 (by omega), const_at hok e2 e3 (fun x hx => by simp [hx]) h h1 h2 (by omega)]
    rw [bnd_at h] at hin
    cases hc : kindP kind (hasB a E[k]) (hasB b E[k]) with
    | true =>
      obtain ⟨out', q1, q2, q3⟩ := with_spec (low := E[k]) (high := bnd E (k + 1) - 1) hn hE.1 (by omega) (by omega) (fun y hy => ((hin y.High).1 (In_high hn hy)).2.1)
      refine ⟨(out', ((k + 1 : Nat) : Int)), ?_, ⟨k + 1, rfl, h, q2, fun t => ?_⟩, by simp only; omega⟩
      · rw [if_pos rfl, q1, Option.bind_some, w64s (by omega)]
      · simp only
        rw [q3, hin]
        constructor
        · rintro (⟨h1, h2, h3⟩ | ⟨h1, h2⟩)
          · exact ⟨h1, by omega, h3⟩
          · exact ⟨by omega, by omega, by rw [hconst t h1 (by omega)]; exact hc⟩
        · rintro ⟨h1, h2, h3⟩
          by_cases h4 : t < E[k]
          · exact .inl ⟨h1, h4, h3⟩
          · exact .inr ⟨by omega, by omega⟩
    | false =>
      refine ⟨(out, ((k + 1 : Nat) : Int)), ?_, ⟨k + 1, rfl, h, hn, fun t => ?_⟩, by simp only; omega⟩
      · rw [if_neg (by simp), w64s (by omega)]
      · simp only
        rw [hin]
        constructor
        · rintro ⟨h1, h2, h3⟩
          exact ⟨h1, by omega, h3⟩
        · rintro ⟨h1, h2, h3⟩
          by_cases h4 : t < E[k]
          · exact ⟨h1, h4, h3⟩
          · rw [hconst t (by omega) h2, hc] at h3; cases h3
  · right
    obtain rfl : k = E.length := by omega
    refine ⟨out, ?_, hn, fun t => ?_⟩
    · rw [if_neg (by simp)]; rfl
    · rw [hin, bnd_end]
      constructor
      · rintro ⟨h1, h2, h3⟩; exact ⟨h1, by omega, h3⟩
      · rintro ⟨h1, h2, h3⟩; exact ⟨h1, by omega, h3⟩
theorem refMake_bad_one {l : List TRange} {k : Nat} (h : k < l.length) (hb : ¬ Ok l[k]) : scansionref02_Make.b1 l (k : Int) = some (.done ([], 1)) := by
  rw [scansionref02_Make.b1, if_pos (by simpa using h), idx_nat, List.getElem?_eq_getElem h, Option.bind_some]
  unfold Ok at hb
  by_cases h1 : l[k].Low < 0
  · rw [if_pos (by simpa using h1), Option.bind_some]; rfl
  · by_cases h2 : l[k].High > 1114111
    · rw [if_neg (by simpa using h1), if_pos (by simpa using h2), Option.bind_some]; rfl
    · rw [if_neg (by simpa using h1), if_neg (by simpa using h2), Option.bind_some, if_pos (by simp; omega)]
theorem refMake_ok_one {l : List TRange} {k : Nat} (h : k < l.length) (hl : l.length ≤ 4000000) (hb : Ok l[k]) : scansionref02_Make.b1 l (k : Int) = some (.next ((k + 1 : Nat) : Int)) := by
  rw [scansionref02_Make.b1, if_pos (by simpa using h), idx_nat, List.getElem?_eq_getElem h, Option.bind_some]
  unfold Ok at hb
  rw [if_neg (by simp; omega), if_neg (by simp; omega), Option.bind_some, if_neg (by simp; omega), w64s (by omega)]
theorem refMake_ok {l : List TRange} (hok : ∀ x ∈ l, Ok x) (hl : l.length ≤ 4000000) : ∃ out, scansionref02_Make l = some (out, 0) ∧ Norm out ∧ ∀ t, In out t ↔ In l t := by
  obtain ⟨out, h1, h2, h3⟩ := pick_spec (a := l) (b := []) (kind := 0) hok (fun x h => by cases h) (by simpa using hl)
  refine ⟨out, ?_, h2, fun t => ?_⟩
  · unfold scansionref02_Make
    have := Loop_int (b := scansionref02_Make.b1 l) (i := 0) (n := l.length) (Nat.zero_le _) (fun j _ hj => refMake_ok_one hj hl (hok _ (List.getElem_mem hj)))
    rw [show ((0 : Nat) : Int) = 0 from rfl] at this
    rw [this]
    apply Loop_end
    rw [scansionref02_Make.b1, if_neg (by simp)]
    unfold scansionref02_Make.k1
    rw [h1]; rfl
  · rw [h3]
    have e : kindP 0 (hasB l t) (hasB [] t) = hasB l t := by simp [kindP, hasB]
    rw [e, hasB_iff]
    constructor
    · exact fun h => h.2.2
    · intro h
      obtain ⟨x, hx, k1, k2⟩ := h
      have := hok x hx
      unfold Ok at this
      exact ⟨by omega, by omega, x, hx, k1, k2⟩
theorem refMake_bad {l : List TRange} (hbad : ¬ ∀ x ∈ l, Ok x) (hl : l.length ≤ 4000000) : scansionref02_Make l = some ([], 1) := by
  unfold scansionref02_Make
  refine Loop_rule (R := some ([], 1)) (fun v : Int => ∃ k : Nat, v = (k : Int) ∧ k ≤ l.length ∧ ∀ j (hj : j < l.length), j < k → Ok l[j]) (fun v => l.length - v.toNat) (fun v hv => ?_) _ ⟨0, rfl, Nat.zero_le _, fun j _ hj => absurd hj (by omega)⟩
  obtain ⟨k, rfl, hk, hall⟩ := hv
  by_cases h : k < l.length
  · by_cases ho : Ok l[k]
    · left
      refine ⟨_, refMake_ok_one h hl ho, ⟨k + 1, rfl, h, fun j hj hjk => ?_⟩, by omega⟩
      by_cases e : j = k
      · subst e; exact ho
      · exact hall j hj (by omega)
    · right
      exact ⟨_, rfl, refMake_bad_one h ho⟩
  · exact absurd (fun x hx => by
      obtain ⟨j, hj, rfl⟩ := List.getElem_of_mem hx
      exact hall j hj (by omega)) hbad
end Go.Val

/- part S1 -/
/- Plain lemmas: a set's text. -/
namespace Go.Val
set_option linter.unusedVariables false
set_option linter.unusedSimpArgs false
noncomputable section
theorem tdivN (r k : Nat) : Int.tdiv (r : Int) (k : Int) = ((r / k : Nat) : Int) := by rw [Int.ofNat_tdiv]
theorem tmodN (r k : Nat) : Int.tmod (r : Int) (k : Int) = ((r % k : Nat) : Int) := by rw [Int.ofNat_tmod]
theorem w64N {n : Nat} (h : n ≤ 9223372036854775807) : IntKind.i64.wrap (n : Int) = (n : Int) := w64 (by omega) (by omega)
theorem roomS7 {n : Nat} (h : n ≤ 9223372036854775807) : roomS n = some () := by
  unfold roomS
  rw [if_neg]
  have : IntKind.i64.max = 9223372036854775807 := by decide
  omega
def dig7 (d : Nat) : UInt8 := if d < 10 then UInt8.ofNat (48 + d) else UInt8.ofNat (55 + d)
def dv7 (c : UInt8) : Nat := if c.toNat < 58 then c.toNat - 48 else c.toNat - 55
theorem dig7_all : ∀ d : Fin 16, dv7 (dig7 d.1) = d.1 ∧ dig7 d.1 ≠ 125 ∧ ([48, 49, 50, 51, 52, 53, 54, 55, 56, 57, 65, 66, 67, 68, 69, 70] : Str)[d.1]? = some (dig7 d.1) := by decide
theorem hexU_small {n : Nat} (h : n < 16) : hexU n = [dig7 n] := by rw [hexU, dif_pos h]; rfl
theorem hexU_step {n : Nat} (h : ¬ n < 16) : hexU n = hexU (n / 16) ++ [dig7 (n % 16)] := by rw [hexU, dif_neg h, hexU_small (n := n % 16) (by omega)]
def valH (l : Str) : Nat := l.foldl (fun a c => a * 16 + dv7 c) 0
theorem hexU_facts : ∀ (k n : Nat), n < 16 ^ (k + 1) → (hexU n).length ≤ k + 1 ∧ (∀ c ∈ hexU n, c ≠ 125) ∧ valH (hexU n) = n
  | k, n, h => by
    by_cases h16 : n < 16
    · obtain ⟨h1, h2, _⟩ := dig7_all ⟨n, h16⟩
      simp only at h1 h2
      rw [hexU_small h16]
      exact ⟨by simp, fun c hc => by rw [List.mem_singleton.1 hc]; exact h2, by simp [valH, h1]⟩
    · cases k with
      | zero => omega
      | succ k =>
        have hp : n / 16 < 16 ^ (k + 1) := by rw [Nat.pow_succ] at h; omega
        obtain ⟨g1, g2, g3⟩ := hexU_facts k (n / 16) hp
        obtain ⟨h1, h2, _⟩ := dig7_all ⟨n % 16, by omega⟩
        simp only at h1 h2
        rw [hexU_step h16]
        refine ⟨by simp; omega, fun c hc => ?_, ?_⟩
        · rcases List.mem_append.1 hc with hc | hc
          · exact g2 c hc
          · rw [List.mem_singleton.1 hc]; exact h2
        · have : valH (hexU (n / 16) ++ [dig7 (n % 16)]) = valH (hexU (n / 16)) * 16 + dv7 (dig7 (n % 16)) := by unfold valH; rw [List.foldl_append]; rfl
          rw [this, g3, h1]; omega
theorem hexU_inj {n m : Nat} (hn : n ≤ 1114111) (hm : m ≤ 1114111) (h : hexU n = hexU m) : n = m := by
  have h1 := (hexU_facts 5 n (by omega)).2.2
  rw [h, (hexU_facts 5 m (by omega)).2.2] at h1
  exact h1.symm
theorem hexa_r : ∀ (fu n : Nat), n < fu → n < 16777216 → scansionref07_hexa.r fu (n : Int) = some (hexU n)
  | 0, n, h, _ => absurd h (Nat.not_lt_zero _)
  | fu + 1, n, h, hn => by
    simp only [scansionref07_hexa.r]
    by_cases h16 : n < 16
    · obtain ⟨_, _, h3⟩ := dig7_all ⟨n, h16⟩
      simp only at h3
      rw [if_pos (by simp; omega), idx_nat, h3, hexU_small h16]; rfl
    · have e1 : IntKind.i64.wrap (Int.tdiv (n : Int) 16) = ((n / 16 : Nat) : Int) := by
        have : Int.tdiv (n : Int) 16 = ((n / 16 : Nat) : Int) := tdivN n 16
        rw [this, w64N (by omega)]
      have e2 : Int.tmod (n : Int) 16 = ((n % 16 : Nat) : Int) := tmodN n 16
      obtain ⟨g1, _⟩ := hexU_facts 5 (n / 16) (by omega)
      obtain ⟨g2, _⟩ := hexU_facts 5 (n % 16) (by omega)
      rw [if_neg (by simp; omega), e1, e2, hexa_r fu (n / 16) (by omega) (by omega), hexa_r fu (n % 16) (by omega) (by omega)]
      simp only [Option.bind_some]
      rw [roomS7 (by omega), hexU_step h16, hexU_small (n := n % 16) (by omega)]; rfl
theorem hexa_eq {n : Int} (h0 : 0 ≤ n) (h1 : n ≤ 1114111) : scansionref07_hexa n = some (hexU n.toNat) := by
  refine lim_eq (n.toNat + 1) fun k hk => ?_
  have := hexa_r k n.toNat (by omega) (by omega)
  rw [Int.toNat_of_nonneg h0] at this
  exact this
def encR (x : TRange) : Str := hexX x.Low ++ if x.High = x.Low then [] else 45 :: hexX x.High
theorem hexX_len {n : Int} (h1 : n ≤ 1114111) : (hexX n).length ≤ 10 := by
  have := (hexU_facts 5 n.toNat (by omega)).1
  unfold hexX; simp only [List.length_append, List.length_cons, List.length_nil]; omega
theorem encR_len {x : TRange} (h : Ok x) : (encR x).length ≤ 21 := by
  unfold Ok at h
  have h1 := hexX_len (n := x.Low) (by omega)
  have h2 := hexX_len (n := x.High) (by omega)
  unfold encR
  rw [List.length_append]
  split
  · simp; omega
  · simp only [List.length_cons]; omega
theorem flat_facts : ∀ {l : List TRange}, (∀ x ∈ l, Ok x) → (l.flatMap encR).length ≤ 21 * l.length
  | [], _ => by simp
  | x :: l, h => by
    have h1 := encR_len (h x (by simp))
    have h2 := flat_facts (l := l) fun y hy => h y (by simp [hy])
    rw [List.flatMap_cons, List.length_append, List.length_cons]; omega
theorem setText_eq (l : List TRange) : setText l = 91 :: (l.flatMap encR ++ [93]) := rfl
theorem setText_len {l : List TRange} (h : ∀ x ∈ l, Ok x) : (setText l).length ≤ 21 * l.length + 2 := by
  have := flat_facts h
  rw [setText_eq]; simp only [List.length_cons, List.length_append, List.length_nil]; omega
theorem refSetText {l : List TRange} (ho : ∀ x ∈ l, Ok x) (hl : l.length ≤ 40) : ∀ (rest pre : List TRange), l = pre ++ rest → Loop (scansionref07_Set.b1 l) (91 :: pre.flatMap encR, (pre.length : Int)) = some (setText l)
  | [], pre, e => by
    rw [List.append_nil] at e
    subst e
    have hf := flat_facts ho
    refine Loop_done ?_
    simp only [scansionref07_Set.b1]
    rw [if_neg (by simp)]
    unfold scansionref07_Set.k1
    rw [roomS7 (by simp at hf ⊢; omega)]; rfl
  | x :: rest, pre, e => by
    have hx : Ok x := ho x (by rw [e]; simp)
    have hp : ∀ y ∈ pre, Ok y := fun y hy => ho y (by rw [e]; simp [hy])
    have hf := flat_facts hp
    have hlen : l.length = pre.length + (rest.length + 1) := by rw [e]; simp
    have hget : l[pre.length]? = some x := by rw [e]; simp
    obtain ⟨g1, _⟩ := hexU_facts 5 x.Low.toNat (by unfold Ok at hx; omega)
    obtain ⟨g2, _⟩ := hexU_facts 5 x.High.toNat (by unfold Ok at hx; omega)
    unfold Ok at hx
    have key : scansionref07_Set.b1 l (91 :: pre.flatMap encR, (pre.length : Int)) = some (.next (91 :: (pre ++ [x]).flatMap encR, (((pre ++ [x]).length : Nat) : Int))) := by
      have hsz : (91 :: pre.flatMap encR).length ≤ 900 := by simp at hf ⊢; omega
      simp only [scansionref07_Set.b1]
      rw [if_pos (by simp; omega), roomS7 (by omega), idx_nat, hget]
      simp only [Option.bind_some]
      rw [hexa_eq hx.1 (by omega)]
      simp only [Option.bind_some]
      rw [roomS7 (by omega), roomS7 (by omega)]
      simp only [Option.bind_some]
      unfold scansionref07_Set.k2
      rw [w64s (by omega)]
      have hfl : (pre ++ [x]).flatMap encR = pre.flatMap encR ++ encR x := by simp
      rw [hfl]
      by_cases heq : x.High = x.Low
      · rw [if_neg (by simp [heq])]
        unfold encR hexX
        rw [if_pos heq]
        simp
      · rw [if_pos (by simpa using heq), roomS7 (by omega), hexa_eq (n := x.High) (by omega) (by omega)]
        simp only [Option.bind_some]
        rw [roomS7 (by omega), roomS7 (by omega)]
        simp only [Option.bind_some]
        unfold encR hexX
        rw [if_neg heq]
        simp
    rw [Loop_next key]
    exact refSetText ho hl rest (pre ++ [x]) (by rw [e]; simp)
theorem refSet_text {l : List TRange} (ho : ∀ x ∈ l, Ok x) (hl : l.length ≤ 40) : scansionref07_Set l = some (setText l) := refSetText ho hl l [] rfl
theorem lexSet_text {l : List TRange} (ho : ∀ x ∈ l, Ok x) (hl : l.length ≤ 1200000) : lex_Set l = some (setText l) := by
  unfold lex_Set
  rw [if_pos ⟨hl, fun x hx => by have := ho x hx; unfold Ok at this; omega⟩]
/-- Of two texts that end at a sign, in which it is not, each part is the same. -/
theorem split_at {c : UInt8} : ∀ {A B R S : Str}, (∀ x ∈ A, x ≠ c) → (∀ x ∈ B, x ≠ c) → A ++ c :: R = B ++ c :: S → A = B ∧ R = S
  | [], [], R, S, _, _, h => ⟨rfl, by simpa using h⟩
  | [], b :: B, R, S, _, hb, h => by
    simp only [List.nil_append, List.cons_append, List.cons.injEq] at h
    exact absurd h.1.symm (hb b (by simp))
  | a :: A, [], R, S, ha, _, h => by
    simp only [List.nil_append, List.cons_append, List.cons.injEq] at h
    exact absurd h.1 (ha a (by simp))
  | a :: A, b :: B, R, S, ha, hb, h => by
    simp only [List.cons_append, List.cons.injEq] at h
    obtain ⟨h1, h2⟩ := split_at (fun x hx => ha x (List.mem_cons_of_mem _ hx)) (fun x hx => hb x (List.mem_cons_of_mem _ hx)) h.2
    exact ⟨by rw [h.1, h1], h2⟩
theorem hexX_split {n m : Int} {A B : Str} (hn : 0 ≤ n ∧ n ≤ 1114111) (hm : 0 ≤ m ∧ m ≤ 1114111) (h : hexX n ++ A = hexX m ++ B) : n = m ∧ A = B := by
  unfold hexX at h
  simp only [List.cons_append, List.nil_append, List.append_assoc, List.cons.injEq, true_and] at h
  obtain ⟨h1, h2⟩ := split_at (hexU_facts 5 n.toNat (by omega)).2.1 (hexU_facts 5 m.toNat (by omega)).2.1 h
  have := hexU_inj (by omega) (by omega) h1
  exact ⟨by omega, h2⟩
theorem tail_head (l : List TRange) : ∃ c r, l.flatMap encR ++ [93] = c :: r ∧ c ≠ 45 := by
  cases l with
  | nil => exact ⟨93, [], rfl, by decide⟩
  | cons x l => exact ⟨92, _, rfl, by decide⟩
theorem flat_inj : ∀ {l m : List TRange}, (∀ x ∈ l, Ok x) → (∀ x ∈ m, Ok x) → l.flatMap encR ++ [93] = m.flatMap encR ++ [93] → l = m
  | [], [], _, _, _ => rfl
  | [], y :: m, _, _, h => by
    have h2 : (93 : UInt8) :: [] = 92 :: _ := h
    simp at h2
  | x :: l, [], _, _, h => by
    have h2 : (92 : UInt8) :: _ = 93 :: [] := h
    simp at h2
  | x :: l, y :: m, hl, hm, h => by
    have hx := hl x (by simp)
    have hy := hm y (by simp)
    unfold Ok at hx hy
    simp only [List.flatMap_cons] at h
    unfold encR at h
    simp only [List.append_assoc] at h
    obtain ⟨h1, h2⟩ := hexX_split (by omega) (by omega) h
    obtain ⟨c, r, hc, hc2⟩ := tail_head l
    obtain ⟨d, q, hd, hd2⟩ := tail_head m
    have ih := flat_inj (l := l) (m := m) (fun z hz => hl z (by simp [hz])) (fun z hz => hm z (by simp [hz]))
    unfold encR at ih hc hd
    by_cases ex : x.High = x.Low
    · rw [if_pos ex, List.nil_append] at h2
      by_cases ey : y.High = y.Low
      · rw [if_pos ey, List.nil_append] at h2
        rw [ih h2]
        have : x = y := by cases x; cases y; simp_all
        rw [this]
      · rw [if_neg ey, hc] at h2
        simp only [List.cons_append, List.cons.injEq] at h2
        exact absurd h2.1 hc2
    · rw [if_neg ex] at h2
      by_cases ey : y.High = y.Low
      · rw [if_pos ey, List.nil_append, hd] at h2
        simp only [List.cons_append, List.cons.injEq] at h2
        exact absurd h2.1.symm hd2
      · rw [if_neg ey] at h2
        simp only [List.cons_append, List.cons.injEq, true_and] at h2
        obtain ⟨h3, h4⟩ := hexX_split (by omega) (by omega) h2
        rw [ih h4]
        have : x = y := by cases x; cases y; simp_all
        rw [this]
theorem setText_inj {l m : List TRange} (hl : ∀ x ∈ l, Ok x) (hm : ∀ x ∈ m, Ok x) (h : setText l = setText m) : l = m := by
  rw [setText_eq, setText_eq] at h
  simp only [List.cons.injEq, true_and] at h
  exact flat_inj hl hm h
end
end Go.Val

/- part S2 -/
/- Plain lemmas: trees, and how many nodes they have. -/
namespace Go.Val
set_option linter.unusedVariables false
set_option linter.unusedSimpArgs false
noncomputable section
theorem TNode.ind {P : TNode → Prop} (h : ∀ n : TNode, (∀ k ∈ n.Kids, P k) → P n) : ∀ n, P n := by
  intro n
  have key : ∀ m (n : TNode), SizeOf.sizeOf n < m → P n := by
    intro m
    induction m with
    | zero => intro n hn; omega
    | succ m ih =>
      intro n hn
      refine h n fun k hk => ih k ?_
      have h1 := List.sizeOf_lt_of_mem hk
      cases n with
      | mk a b ks =>
        simp only [TNode.mk.sizeOf_spec] at hn h1
        omega
  exact key _ n (Nat.lt_succ_self _)
mutual
def nsize : TNode → Nat
  | ⟨_, _, ks⟩ => 1 + nsizeL ks
def nsizeL : List TNode → Nat
  | [] => 0
  | x :: xs => nsize x + nsizeL xs
end
theorem nsize_eq (n : TNode) : nsize n = 1 + nsizeL n.Kids := by cases n; rw [nsize]
theorem nsize_mem : ∀ {l : List TNode} {x : TNode}, x ∈ l → nsize x ≤ nsizeL l
  | y :: l, x, h => by
    rw [nsizeL]
    rcases List.mem_cons.1 h with rfl | h
    · omega
    · have := nsize_mem h; omega
theorem nsize_pos (n : TNode) : 1 ≤ nsize n := by rw [nsize_eq]; omega
theorem nsize_kid {n x : TNode} (h : x ∈ n.Kids) : nsize x < nsize n := by
  have := nsize_mem h
  rw [nsize_eq n]; omega
theorem take_snocS {α : Type} {l : List α} {s : Nat} (h : s < l.length) : l.take (s + 1) = l.take s ++ [l[s]] := by rw [List.take_add_one, List.getElem?_eq_getElem h]; rfl
mutual
def nodesV : TNode → Nat → Int → Nat
  | ⟨_, _, ks⟩, most, deep => min (nodesL ks most deep 1) most
def nodesL : List TNode → Nat → Int → Nat → Nat
  | [], _, _, k => k
  | x :: xs, most, deep, k => if most ≤ k ∨ deep ≤ 0 then most else nodesL xs most deep (k + nodesV x (most - k) (deep - 1))
end
theorem nodesV_eq (n : TNode) (most : Nat) (deep : Int) : nodesV n most deep = min (nodesL n.Kids most deep 1) most := by cases n; rw [nodesV]
theorem nodesV_le (n : TNode) (most : Nat) (deep : Int) : nodesV n most deep ≤ most := by rw [nodesV_eq]; exact Nat.min_le_right _ _
theorem nodesL_pos : ∀ (l : List TNode) (most : Nat) (deep : Int) (k : Nat), 1 ≤ k → k ≤ most → 1 ≤ nodesL l most deep k
  | [], most, deep, k, h1, h2 => by rw [nodesL]; exact h1
  | x :: l, most, deep, k, h1, h2 => by
    rw [nodesL]
    split
    · omega
    · exact nodesL_pos l most deep _ (by omega) (by have := nodesV_le x (most - k) (deep - 1); omega)
theorem nodesV_pos (n : TNode) {most : Nat} (deep : Int) (h : 1 ≤ most) : 1 ≤ nodesV n most deep := by
  have := nodesL_pos n.Kids most deep 1 (Nat.le_refl _) h
  rw [nodesV_eq]; omega
theorem nodesV_size : ∀ (n : TNode) (most : Nat) (deep : Int), nodesV n most deep < most → nodesV n most deep = nsize n := by
  refine TNode.ind fun n ih most deep h => ?_
  have loop : ∀ (l : List TNode) (k : Nat), (∀ x ∈ l, x ∈ n.Kids) → nodesL l most deep k < most → nodesL l most deep k = k + nsizeL l := by
    intro l
    induction l with
    | nil => intro k _ h; simp [nodesL, nsizeL]
    | cons x l ihl =>
      intro k hs h
      rw [nodesL] at h ⊢
      by_cases hc : most ≤ k ∨ deep ≤ 0
      · rw [if_pos hc] at h; omega
      · rw [if_neg hc] at h ⊢
        have h1 := ihl _ (fun y hy => hs y (by simp [hy])) h
        rw [h1] at h ⊢
        have h2 := ih x (hs x (by simp)) (most - k) (deep - 1) (by omega)
        rw [h2, nsizeL]; omega
  rw [nodesV_eq] at h ⊢
  have := loop n.Kids 1 (fun _ hx => hx) (by omega)
  rw [nsize_eq]
  omega
theorem Nodes_r : ∀ (n : TNode) (fu most : Nat) (deep : Int), nsize n ≤ fu → 1 ≤ most → most ≤ 1000 → 0 ≤ deep → deep ≤ 1000 → scansionref08_Nodes.r fu n (most : Int) deep = some ((nodesV n most deep : Nat) : Int) := by
  refine TNode.ind fun n ih => ?_
  intro fu most deep hfu h1 h2 h3 h4
  have hp := nsize_pos n
  obtain ⟨fu, rfl⟩ : ∃ k, fu = k + 1 := ⟨fu - 1, by omega⟩
  have loop : ∀ (l : List TNode) (i k : Nat), n.Kids.drop i = l → i < k → k ≤ most → Loop (scansionref08_Nodes.b1 (scansionref08_Nodes.r fu) n (most : Int) deep) ((k : Int), (i : Int)) = some ((min (nodesL l most deep k) most : Nat) : Int) := by
    intro l
    induction l with
    | nil =>
      intro i k hl hk1 hk2
      have hi : n.Kids.length ≤ i := List.drop_eq_nil_iff.1 hl
      refine Loop_end ?_
      simp only [scansionref08_Nodes.b1]
      rw [if_neg (by simp; omega)]
      unfold scansionref08_Nodes.k1 mn
      rw [nodesL, if_neg (by omega), show min k most = k by omega]
    | cons x l ihl =>
      intro i k hl hk1 hk2
      have hil : i < n.Kids.length := by
        rcases Nat.lt_or_ge i n.Kids.length with h | h
        · exact h
        · rw [List.drop_eq_nil_of_le h] at hl; cases hl
      have hd := List.drop_eq_getElem_cons hil
      rw [hl] at hd
      simp only [List.cons.injEq] at hd
      obtain ⟨hx, hd⟩ := hd
      rw [nodesL]
      by_cases hstop : most ≤ k ∨ deep ≤ 0
      · rw [if_pos hstop, Nat.min_self]
        refine Loop_done ?_
        simp only [scansionref08_Nodes.b1]
        rw [if_pos (by simpa using hil), if_pos (by simp; omega)]
      · have hm := nodesV_le x (most - k) (deep - 1)
        have hm1 := nodesV_pos x (deep - 1) (most := most - k) (by omega)
        rw [if_neg hstop, ← ihl (i + 1) (k + nodesV x (most - k) (deep - 1)) hd.symm (by omega) (by omega)]
        refine Loop_next ?_
        simp only [scansionref08_Nodes.b1]
        have e1 : IntKind.i64.wrap ((most : Int) - (k : Int)) = ((most - k : Nat) : Int) := by rw [w64 (by omega) (by omega)]; omega
        have e2 : IntKind.i64.wrap (deep - 1) = deep - 1 := w64 (by omega) (by omega)
        have hkid := ih x (by rw [hx]; exact List.getElem_mem hil) fu (most - k) (deep - 1) (by have := nsize_kid (n := n) (List.getElem_mem hil); rw [hx]; omega) (by omega) (by omega) (by omega) (by omega)
        rw [if_pos (by simpa using hil), if_neg (by simp; omega), idx_nat, List.getElem?_eq_getElem hil, Option.bind_some, e1, e2, ← hx, hkid, Option.bind_some, w64 (n := (k : Int) + ((nodesV x (most - k) (deep - 1) : Nat) : Int)) (by omega) (by omega), w64s (by omega)]
        rfl
  simp only [scansionref08_Nodes.r]
  rw [nodesV_eq]
  exact loop n.Kids 0 1 rfl (by omega) h1
theorem Nodes_spec (n : TNode) : scansionref08_Nodes n 150 60 = some ((nodesV n 150 60 : Nat) : Int) := lim_eq (nsize n) fun fu h => Nodes_r n fu 150 60 h (by omega) (by omega) (by omega) (by omega)
/-- A loop that looks through all. -/
theorem Loop_scan {ρ : Type} {b : Int → Option (Step Int ρ)} {P : Nat → Prop} {n : Nat} {bad : ρ} {R : Option ρ} (h : ∀ j : Nat, j < n → (P j ∧ b (j : Int) = some (.next ((j + 1 : Nat) : Int))) ∨ (¬ P j ∧ b (j : Int) = some (.done bad))) (he : b (n : Int) = R.map Step.done) :
    ((∀ j, j < n → P j) ∧ Loop b 0 = R) ∨ ((¬ ∀ j, j < n → P j) ∧ Loop b 0 = some bad) := by
  have key : ∀ d k : Nat, k + d = n → ((∀ j, k ≤ j → j < n → P j) ∧ Loop b (k : Int) = R) ∨ ((¬ ∀ j, k ≤ j → j < n → P j) ∧ Loop b (k : Int) = some bad) := by
    intro d
    induction d with
    | zero =>
      intro k hk
      obtain rfl : k = n := by omega
      exact .inl ⟨fun j h1 h2 => by omega, Loop_end he⟩
    | succ d ih =>
      intro k hk
      rcases h k (by omega) with ⟨h1, h2⟩ | ⟨h1, h2⟩
      · rw [Loop_next h2]
        rcases ih (k + 1) (by omega) with ⟨g1, g2⟩ | ⟨g1, g2⟩
        · refine .inl ⟨fun j hj hjn => ?_, g2⟩
          rcases Nat.eq_or_lt_of_le hj with e | e
          · subst e; exact h1
          · exact g1 j e hjn
        · exact .inr ⟨fun hall => g1 fun j hj hjn => hall j (by omega) hjn, g2⟩
      · exact .inr ⟨fun hall => h1 (hall k (Nat.le_refl _) (by omega)), Loop_done h2⟩
  rcases key n 0 (by omega) with ⟨g1, g2⟩ | ⟨g1, g2⟩
  · exact .inl ⟨fun j hj => g1 j (Nat.zero_le _) hj, g2⟩
  · exact .inr ⟨fun hall => g1 fun j _ hj => hall j hj, g2⟩
/-- A program that is few. -/
structure FewP (p : TProgram) : Prop where
  sets : p.Sets.length ≤ 70
  rules : p.Rules.length ≤ 70
  each : ∀ s ∈ p.Sets, s.length ≤ 40
  nodes : ∀ r ∈ p.Rules, nsize r.Left < 150 ∧ nsize r.Right < 150
theorem few_eq (p : TProgram) : ∃ b, scansionlaw08_few p = some b ∧ (b = true → FewP p) := by
  unfold scansionlaw08_few
  by_cases h0 : p.Sets.length ≤ 70 ∧ p.Rules.length ≤ 70
  · rw [if_neg (by simp; omega)]
    have hsets := Loop_scan (b := scansionlaw08_few.b2 p) (P := fun j => ∀ hj : j < p.Sets.length, p.Sets[j].length ≤ 40) (n := p.Sets.length) (bad := false) (R := scansionlaw08_few.k1 p) (fun j hj => by
      by_cases hc : p.Sets[j].length ≤ 40
      · refine .inl ⟨fun _ => hc, ?_⟩
        simp only [scansionlaw08_few.b2]
        rw [if_pos (by simpa using hj), idx_nat, List.getElem?_eq_getElem hj, Option.bind_some, if_neg (by simp; omega), w64s (by omega)]
      · refine .inr ⟨fun h => hc (h hj), ?_⟩
        simp only [scansionlaw08_few.b2]
        rw [if_pos (by simpa using hj), idx_nat, List.getElem?_eq_getElem hj, Option.bind_some, if_pos (by simp; omega)]) (by
      simp only [scansionlaw08_few.b2]
      rw [if_neg (by simp)])
    rcases hsets with ⟨hs1, hs2⟩ | ⟨_, hs2⟩
    · rw [hs2]
      unfold scansionlaw08_few.k1
      have hrules := Loop_scan (b := scansionlaw08_few.b1 p) (P := fun j => ∀ hj : j < p.Rules.length, nodesV p.Rules[j].Left 150 60 < 150 ∧ nodesV p.Rules[j].Right 150 60 < 150) (n := p.Rules.length) (bad := false) (R := some true) (fun j hj => by
        by_cases hc1 : nodesV p.Rules[j].Left 150 60 < 150
        · by_cases hc2 : nodesV p.Rules[j].Right 150 60 < 150
          · refine .inl ⟨fun _ => ⟨hc1, hc2⟩, ?_⟩
            simp only [scansionlaw08_few.b1]
            rw [if_pos (by simpa using hj), idx_nat, List.getElem?_eq_getElem hj, Option.bind_some, Nodes_spec, Option.bind_some, if_neg (by simp; omega), Nodes_spec, Option.bind_some, Option.bind_some, if_neg (by simp; omega), w64s (by omega)]
          · refine .inr ⟨fun h => hc2 (h hj).2, ?_⟩
            simp only [scansionlaw08_few.b1]
            rw [if_pos (by simpa using hj), idx_nat, List.getElem?_eq_getElem hj, Option.bind_some, Nodes_spec, Option.bind_some, if_neg (by simp; omega), Nodes_spec, Option.bind_some, Option.bind_some, if_pos (by simp; omega)]
        · refine .inr ⟨fun h => hc1 (h hj).1, ?_⟩
          simp only [scansionlaw08_few.b1]
          rw [if_pos (by simpa using hj), idx_nat, List.getElem?_eq_getElem hj, Option.bind_some, Nodes_spec, Option.bind_some, if_pos (by simp; omega), Option.bind_some, if_pos rfl]) (by
        simp only [scansionlaw08_few.b1]
        rw [if_neg (by simp)]; rfl)
      rcases hrules with ⟨hr1, hr2⟩ | ⟨_, hr2⟩
      · refine ⟨true, hr2, fun _ => ⟨h0.1, h0.2, fun s hs => ?_, fun r hr => ?_⟩⟩
        · obtain ⟨j, hj, rfl⟩ := List.getElem_of_mem hs
          exact hs1 j hj hj
        · obtain ⟨j, hj, rfl⟩ := List.getElem_of_mem hr
          have := hr1 j hj hj
          rw [← nodesV_size _ 150 60 this.1, ← nodesV_size _ 150 60 this.2]; exact this
      · exact ⟨false, hr2, by simp⟩
    · exact ⟨false, hs2, by simp⟩
  · rw [if_pos (by simp; omega)]
    exact ⟨false, rfl, by simp⟩
end
end Go.Val

/- part S3 -/
/- Plain lemmas: whether an expression may be. -/
namespace Go.Val
set_option linter.unusedVariables false
set_option linter.unusedSimpArgs false
noncomputable section
/-- Does a part stand in brackets, in one of this kind? -/
def openB (k : Int) (x : TNode) : Bool := decide (x.Kind = 2) || (decide (x.Kind = 0) && !decide (k = 2))
def signB (k : Int) : Bool := decide (3 ≤ k) && decide (k ≤ 5)
def fitsB (k : Int) (m : Nat) : Bool := if k = 0 then !decide (m = 1) else if k = 2 then decide (1 < m) else signB k && decide (m = 1)
def signsN (k : Int) (g : Nat) : Nat := if signB k then g + 1 else 0
def moreN (k : Int) (x : TNode) (d : Nat) : Nat := if openB k x then d + 1 else d
mutual
def formB (sets : Nat) : TNode → Nat → Nat → Bool
  | ⟨k, s, ks⟩, d, g => if k = 1 then ks.isEmpty && (decide (0 ≤ s) && decide (s < (sets : Int))) else decide (s = 0) && (fitsB k ks.length && (decide (signsN k g ≤ 3) && formL sets k ks d (signsN k g)))
def formL (sets : Nat) (k : Int) : List TNode → Nat → Nat → Bool
  | [], _, _ => true
  | x :: xs, d, g => decide (moreN k x d ≤ 20) && (formB sets x (moreN k x d) g && formL sets k xs d g)
end
theorem formB_eq (sets : Nat) (n : TNode) (d g : Nat) : formB sets n d g = if n.Kind = 1 then n.Kids.isEmpty && (decide (0 ≤ n.Set) && decide (n.Set < (sets : Int))) else decide (n.Set = 0) && (fitsB n.Kind n.Kids.length && (decide (signsN n.Kind g ≤ 3) && formL sets n.Kind n.Kids d (signsN n.Kind g))) := by
  cases n; rw [formB]
mutual
def metS : TNode → Nat → Option Nat
  | ⟨k, s, ks⟩, a => if k = 1 then (if s > (a : Int) then none else some (max a (s.toNat + 1))) else metL ks a
def metL : List TNode → Nat → Option Nat
  | [], a => some a
  | x :: xs, a => (metS x a).bind (metL xs)
end
theorem metS_eq (n : TNode) (a : Nat) : metS n a = if n.Kind = 1 then (if n.Set > (a : Int) then none else some (max a (n.Set.toNat + 1))) else metL n.Kids a := by
  cases n; rw [metS]
theorem pOpen (of n : TNode) : syntax_open of n = some (openB of.Kind n) := rfl
theorem rOpen (of n : TNode) : scansionref08_open of n = some (openB of.Kind n) := by
  unfold scansionref08_open openB
  by_cases h3 : of.Kind = 2
  · rw [if_pos (by simpa using h3)]
    by_cases h1 : n.Kind = 2 <;> simp [h1, h3]
  · rw [if_neg (by simpa using h3)]
    by_cases h1 : n.Kind = 2
    · simp [h1]
    · by_cases h2 : n.Kind = 0 <;> simp [h1, h2, h3]
theorem pSigned (n : TNode) : syntax_signed n = some (signB n.Kind) := rfl
theorem rSigned (n : TNode) : scansionref08_signed n = some (signB n.Kind) := by
  unfold scansionref08_signed signB
  congr 1
  rw [Bool.eq_iff_iff]
  simp
  omega
theorem pFits {n : TNode} (h : n.Kids.length ≤ 1000000) : syntax_fits n = some (fitsB n.Kind n.Kids.length) := by
  unfold syntax_fits fitsB
  by_cases h0 : n.Kind = 0
  · rw [if_pos (by simpa using h0), if_pos h0]
    congr 1
    rw [Bool.eq_iff_iff]; simp; omega
  · rw [if_neg (by simpa using h0), if_neg h0]
    by_cases h2 : n.Kind = 2
    · rw [if_pos (by simpa using h2), if_pos h2]
      congr 1
      rw [Bool.eq_iff_iff]; simp; omega
    · rw [if_neg (by simpa using h2), if_neg h2, pSigned, Option.bind_some]
      cases signB n.Kind with
      | true =>
        rw [if_pos rfl, Option.bind_some]
        congr 1
        rw [Bool.eq_iff_iff]; simp; omega
      | false => rw [if_neg (by simp), Option.bind_some]; rfl
theorem kids_le (n : TNode) : n.Kids.length ≤ nsize n := by
  have : ∀ l : List TNode, l.length ≤ nsizeL l := by
    intro l
    induction l with
    | nil => simp
    | cons x l ih => have := nsize_pos x; rw [nsizeL, List.length_cons]; omega
  have := this n.Kids
  rw [nsize_eq]; omega
theorem drop_cons {n : TNode} {i : Nat} {x : TNode} {l : List TNode} (h : n.Kids.drop i = x :: l) : ∃ hi : i < n.Kids.length, n.Kids[i] = x ∧ n.Kids.drop (i + 1) = l := by
  have hil : i < n.Kids.length := by
    rcases Nat.lt_or_ge i n.Kids.length with q | q
    · exact q
    · rw [List.drop_eq_nil_of_le q] at h; cases h
  have hd := List.drop_eq_getElem_cons hil
  rw [h] at hd
  simp only [List.cons.injEq] at hd
  exact ⟨hil, hd.1.symm, hd.2.symm⟩
/-- The reference's form. -/
theorem form_r (sets : Nat) : ∀ (n : TNode) (fu d g : Nat), nsize n ≤ fu → nsize n ≤ 1000 → d ≤ 20 → g ≤ 3 → scansionref08_form.r fu n (d : Int) (g : Int) (sets : Int) = some (formB sets n d g) := by
  refine TNode.ind fun n ih => ?_
  intro fu d g hfu hsz hd hg
  have hp := nsize_pos n
  obtain ⟨fu, rfl⟩ : ∃ k, fu = k + 1 := ⟨fu - 1, by omega⟩
  have hkl := kids_le n
  have loop : ∀ (g2 : Nat), g2 ≤ 3 → ∀ (l : List TNode) (i : Nat), n.Kids.drop i = l → Loop (scansionref08_form.b1 (scansionref08_form.r fu) n (d : Int) (sets : Int) (g2 : Int)) (i : Int) = some (formL sets n.Kind l d g2) := by
    intro g2 hg2 l
    induction l with
    | nil =>
      intro i hl
      have hi : n.Kids.length ≤ i := List.drop_eq_nil_iff.1 hl
      refine Loop_end (R := some (formL sets n.Kind [] d g2)) ?_
      simp only [scansionref08_form.b1]
      rw [if_neg (by simp; omega), formL]; rfl
    | cons x l ihl =>
      intro i hl
      obtain ⟨hil, hx, hdr⟩ := drop_cons hl
      have hmem : x ∈ n.Kids := by rw [← hx]; exact List.getElem_mem hil
      have hb : scansionref08_form.b1 (scansionref08_form.r fu) n (d : Int) (sets : Int) (g2 : Int) (i : Int) = scansionref08_form.k4 (scansionref08_form.r fu) (sets : Int) (g2 : Int) (i : Int) x ((moreN n.Kind x d : Nat) : Int) := by
        simp only [scansionref08_form.b1]
        rw [if_pos (by simpa using hil), idx_nat, List.getElem?_eq_getElem hil, Option.bind_some, rOpen, Option.bind_some, hx]
        unfold moreN
        cases openB n.Kind x with
        | true => rw [if_pos rfl, if_pos rfl, w64s (by omega)]
        | false => rw [if_neg (by simp), if_neg (by simp)]
      rw [formL]
      by_cases hm : moreN n.Kind x d ≤ 20
      · have hkid := ih x hmem fu (moreN n.Kind x d) g2 (by have := nsize_kid hmem; omega) (by have := nsize_kid hmem; omega) hm hg2
        rw [decide_eq_true hm, Bool.true_and]
        cases hf : formB sets x (moreN n.Kind x d) g2 with
        | true =>
          rw [Bool.true_and, ← ihl (i + 1) hdr]
          refine Loop_next (hb.trans ?_)
          unfold scansionref08_form.k4
          rw [if_neg (by simp; omega), hkid, Option.bind_some, hf, if_neg (by simp), w64s (by omega)]
        | false =>
          rw [Bool.false_and]
          refine Loop_done (hb.trans ?_)
          unfold scansionref08_form.k4
          rw [if_neg (by simp; omega), hkid, Option.bind_some, hf, if_pos (by simp)]
      · rw [decide_eq_false hm, Bool.false_and]
        refine Loop_done (hb.trans ?_)
        unfold scansionref08_form.k4
        rw [if_pos (by simp; omega)]
  have hk2 : ∀ g2 : Nat, g2 ≤ 3 → scansionref08_form.k2 (scansionref08_form.r fu) n (d : Int) (sets : Int) (g2 : Int) = some (formL sets n.Kind n.Kids d g2) := fun g2 hg2 => loop g2 hg2 n.Kids 0 rfl
  have hk1 : ∀ g1 : Nat, g1 ≤ 3 → (signB n.Kind = false ∨ signsN n.Kind g = g1) → scansionref08_form.k1 (scansionref08_form.r fu) n (d : Int) (sets : Int) (g1 : Int) = some (formL sets n.Kind n.Kids d (signsN n.Kind g)) := fun g1 hg1 hs => by
    unfold scansionref08_form.k1
    rw [rSigned, Option.bind_some]
    cases hb : signB n.Kind with
    | true =>
      rw [if_neg (by simp), hk2 g1 hg1]
      rcases hs with h | h
      · rw [hb] at h; cases h
      · rw [h]
    | false =>
      have : signsN n.Kind g = 0 := by unfold signsN; rw [hb]; rfl
      rw [if_pos (by simp), this]
      exact hk2 0 (by omega)
  simp only [scansionref08_form.r]
  rw [formB_eq]
  by_cases h1 : n.Kind = 1
  · rw [if_pos (by simpa using h1), if_pos h1]
    congr 1
    rw [Bool.eq_iff_iff]
    simp
  · rw [if_neg (by simpa using h1), if_neg h1]
    by_cases hs : n.Set = 0
    · rw [if_neg (by simpa using hs), decide_eq_true hs, Bool.true_and]
      by_cases h0 : n.Kind = 0
      · have hns : signB n.Kind = false := by rw [h0]; rfl
        have hsn : signsN n.Kind g = 0 := by unfold signsN; rw [hns]; rfl
        rw [if_pos (by simpa using h0)]
        have hf : fitsB n.Kind n.Kids.length = !decide (n.Kids.length = 1) := by unfold fitsB; rw [if_pos h0]
        rw [hf]
        by_cases hl : n.Kids.length = 1
        · rw [if_pos (by simp [hl]), decide_eq_true hl]; rfl
        · rw [if_neg (by simp; omega), decide_eq_false hl, hk1 g hg (.inl hns), hsn]; simp
      · rw [if_neg (by simpa using h0)]
        by_cases h2 : n.Kind = 2
        · have hns : signB n.Kind = false := by rw [h2]; rfl
          have hsn : signsN n.Kind g = 0 := by unfold signsN; rw [hns]; rfl
          rw [if_pos (by simpa using h2)]
          have hf : fitsB n.Kind n.Kids.length = decide (1 < n.Kids.length) := by unfold fitsB; rw [if_neg h0, if_pos h2]
          rw [hf]
          by_cases hl : 1 < n.Kids.length
          · rw [if_neg (by simp; omega), decide_eq_true hl, hk1 g hg (.inl hns), hsn]; simp
          · rw [if_pos (by simp; omega), decide_eq_false hl]; rfl
        · rw [if_neg (by simpa using h2), rSigned, Option.bind_some]
          have hf : fitsB n.Kind n.Kids.length = (signB n.Kind && decide (n.Kids.length = 1)) := by unfold fitsB; rw [if_neg h0, if_neg h2]
          rw [hf]
          cases hb : signB n.Kind with
          | false => rw [if_neg (by simp)]; rfl
          | true =>
            have hsn : signsN n.Kind g = g + 1 := by unfold signsN; rw [hb]; rfl
            rw [if_pos rfl, hsn, w64s (by omega)]
            by_cases hl : n.Kids.length = 1
            · by_cases hg3 : g + 1 ≤ 3
              · rw [if_neg (by simp; omega), decide_eq_true hl, decide_eq_true hg3, hk1 (g + 1) hg3 (.inr hsn), hsn]; simp
              · rw [if_pos (by simp; omega), decide_eq_false hg3]; simp
            · rw [if_pos (by simp; omega), decide_eq_false hl]; simp
    · rw [if_pos (by simpa using hs), decide_eq_false hs, Bool.false_and]
theorem form_eq (sets : Nat) {n : TNode} (h : nsize n ≤ 1000) : scansionref08_form n 0 0 (sets : Int) = some (formB sets n 0 0) := lim_eq (nsize n) fun fu hf => form_r sets n fu 0 0 hf h (by omega) (by omega)
/-- What is met, as a number. -/
def metI : Option Nat → Int
  | some m => (m : Int)
  | none => -1
theorem metS_le (sets : Nat) : ∀ (n : TNode) (d g a m : Nat), formB sets n d g = true → a ≤ sets → metS n a = some m → m ≤ sets := by
  refine TNode.ind fun n ih => ?_
  intro d g a m hf ha hm
  rw [formB_eq] at hf
  rw [metS_eq] at hm
  by_cases h1 : n.Kind = 1
  · rw [if_pos h1] at hf hm
    simp at hf
    split at hm
    · cases hm
    · obtain rfl := Option.some.inj hm; omega
  · rw [if_neg h1] at hf hm
    simp only [Bool.and_eq_true] at hf
    have loop : ∀ (l : List TNode) (a : Nat), (∀ x ∈ l, x ∈ n.Kids) → formL sets n.Kind l d (signsN n.Kind g) = true → a ≤ sets → metL l a = some m → m ≤ sets := by
      intro l
      induction l with
      | nil => intro a _ _ ha hm; rw [metL] at hm; obtain rfl := Option.some.inj hm; exact ha
      | cons x l ihl =>
        intro a hs hf ha hm
        rw [formL] at hf
        simp only [Bool.and_eq_true] at hf
        rw [metL, Option.bind_eq_some_iff] at hm
        obtain ⟨q, hq, hm⟩ := hm
        exact ihl q (fun y hy => hs y (by simp [hy])) hf.2.2 (ih x (hs x (by simp)) _ _ a q hf.2.1 ha hq) hm
    exact loop n.Kids a (fun _ h => h) hf.2.2.2 ha hm
theorem met_r (sets : Nat) (hsets : sets ≤ 100) : ∀ (n : TNode) (fu d g a : Nat), nsize n ≤ fu → nsize n ≤ 1000 → formB sets n d g = true → a ≤ sets → scansionref08_met.r fu n (a : Int) = some (metI (metS n a)) := by
  refine TNode.ind fun n ih => ?_
  intro fu d g a hfu hsz hf ha
  have hp := nsize_pos n
  obtain ⟨fu, rfl⟩ : ∃ k, fu = k + 1 := ⟨fu - 1, by omega⟩
  have hkl := kids_le n
  rw [formB_eq] at hf
  simp only [scansionref08_met.r]
  rw [metS_eq]
  by_cases h1 : n.Kind = 1
  · rw [if_pos h1] at hf
    simp at hf
    rw [if_pos (by simpa using h1), if_pos h1]
    by_cases hc : n.Set > (a : Int)
    · rw [if_pos (by simpa using hc), if_pos hc]; rfl
    · rw [if_neg (by simpa using hc), if_neg hc, w64 (by omega) (by omega)]
      congr 1
      unfold mx metI
      simp only
      split <;> omega
  · rw [if_neg h1] at hf
    simp only [Bool.and_eq_true] at hf
    rw [if_neg (by simpa using h1), if_neg h1]
    have loop : ∀ (l : List TNode) (i a : Nat), n.Kids.drop i = l → formL sets n.Kind l d (signsN n.Kind g) = true → a ≤ sets → Loop (scansionref08_met.b1 (scansionref08_met.r fu) n) ((a : Int), (i : Int)) = some (metI (metL l a)) := by
      intro l
      induction l with
      | nil =>
        intro i a hl _ ha
        have hi : n.Kids.length ≤ i := List.drop_eq_nil_iff.1 hl
        refine Loop_end (R := some (metI (metL [] a))) ?_
        simp only [scansionref08_met.b1]
        rw [if_neg (by simp; omega), metL]; rfl
      | cons x l ihl =>
        intro i a hl hfl ha
        obtain ⟨hil, hx, hdr⟩ := drop_cons hl
        have hmem : x ∈ n.Kids := by rw [← hx]; exact List.getElem_mem hil
        rw [formL] at hfl
        simp only [Bool.and_eq_true] at hfl
        have hkid := ih x hmem fu _ _ a (by have := nsize_kid hmem; omega) (by have := nsize_kid hmem; omega) hfl.2.1 ha
        have hb : scansionref08_met.b1 (scansionref08_met.r fu) n ((a : Int), (i : Int)) = some (.next (metI (metS x a), ((i + 1 : Nat) : Int))) := by
          simp only [scansionref08_met.b1]
          have hc : (decide ((i : Int) < (n.Kids.length : Int)) && decide ((a : Int) ≥ 0)) = true := by rw [decide_eq_true (by omega), decide_eq_true (by omega)]; rfl
          rw [if_pos hc, idx_nat, List.getElem?_eq_getElem hil, Option.bind_some, hx, hkid, Option.bind_some, w64s (by omega)]
        rw [Loop_next hb, metL]
        cases hm : metS x a with
        | some q => exact ihl (i + 1) q hdr hfl.2.2 (metS_le sets x _ _ a q hfl.2.1 ha hm)
        | none =>
          have e : metI none = -1 := rfl
          rw [e]
          refine Loop_end (R := some (-1)) ?_
          simp only [scansionref08_met.b1]
          rw [if_neg (by simp)]; rfl
    exact loop n.Kids 0 a rfl hf.2.2.2 ha
theorem met_eq (sets : Nat) (hsets : sets ≤ 100) {n : TNode} {a : Nat} (h : nsize n ≤ 1000) (hf : formB sets n 0 0 = true) (ha : a ≤ sets) : scansionref08_met n (a : Int) = some (metI (metS n a)) := lim_eq (nsize n) fun fu hfu => met_r sets hsets n fu 0 0 a hfu h hf ha
/-- The program's look at an expression: true, and what is met; or false. -/
def RightOk (sets : Nat) (b : Bool) (m : Option Nat) (r : Option (Bool × Tsyntax_checker)) : Prop :=
  match b, m with
  | true, some q => r = some (true, ⟨(sets : Int), (q : Int)⟩)
  | _, _ => ∃ c, r = some (false, c)
theorem right_r (sets : Nat) (hsets : sets ≤ 100) : ∀ (n : TNode) (fu d g a : Nat), nsize n ≤ fu → nsize n ≤ 1000 → d ≤ 20 → g ≤ 3 → a ≤ sets → RightOk sets (formB sets n d g) (metS n a) (syntax_checker_right.r fu ⟨(sets : Int), (a : Int)⟩ n (d : Int) (g : Int)) := by
  refine TNode.ind fun n ih => ?_
  intro fu d g a hfu hsz hd hg ha
  have hp := nsize_pos n
  obtain ⟨fu, rfl⟩ : ∃ k, fu = k + 1 := ⟨fu - 1, by omega⟩
  have hkl := kids_le n
  simp only [syntax_checker_right.r]
  rw [formB_eq, metS_eq]
  by_cases h1 : n.Kind = 1
  · rw [if_pos h1, if_pos h1, if_pos (show (n.Kind == 1) = true by simpa using h1)]
    by_cases hok : n.Kids.length = 0 ∧ 0 ≤ n.Set ∧ n.Set < (sets : Int)
    · have hempty : n.Kids.isEmpty = true := by rw [List.isEmpty_iff]; exact List.length_eq_zero_iff.1 hok.1
      rw [hempty, decide_eq_true hok.2.1, decide_eq_true hok.2.2]
      by_cases hc : n.Set > (a : Int)
      · rw [if_pos hc]
        have e : decide (n.Set ≤ (a : Int)) = false := decide_eq_false (by omega)
        exact ⟨⟨(sets : Int), mx (a : Int) (IntKind.i64.wrap (mn n.Set (sets : Int) + 1))⟩, by simp [e]⟩
      · rw [if_neg hc]
        have e : decide (n.Set ≤ (a : Int)) = true := decide_eq_true (by omega)
        have e1 : mn n.Set (sets : Int) = n.Set := by unfold mn; rw [if_neg (by omega)]
        have e2 : mx (a : Int) (n.Set + 1) = ((max a (n.Set.toNat + 1) : Nat) : Int) := by unfold mx; split <;> omega
        show some _ = some (true, (⟨(sets : Int), ((max a (n.Set.toNat + 1) : Nat) : Int)⟩ : Tsyntax_checker))
        rw [e1, w64 (by omega) (by omega), e2, e, hok.1]
        rfl
    · have hb : (n.Kids.isEmpty && (decide (0 ≤ n.Set) && decide (n.Set < (sets : Int)))) = false := by
        rw [Bool.eq_false_iff]
        intro h
        simp only [Bool.and_eq_true, List.isEmpty_iff, decide_eq_true_eq] at h
        exact hok ⟨by rw [h.1]; rfl, h.2⟩
      rw [hb]
      refine ⟨_, Prod.ext ?_ rfl |> congrArg some⟩
      rw [Bool.eq_false_iff]
      intro h
      simp only [Bool.and_eq_true, decide_eq_true_eq, beq_iff_eq] at h
      exact hok ⟨by omega, h.2.1, h.2.2.1⟩
  · rw [if_neg h1, if_neg h1, if_neg (show ¬ (n.Kind == 1) = true by simpa using h1), pSigned, Option.bind_some]
    have loop : ∀ (g2 : Nat), g2 ≤ 3 → ∀ (l : List TNode) (i a : Nat), n.Kids.drop i = l → a ≤ sets → RightOk sets (formL sets n.Kind l d g2) (metL l a) (Loop (syntax_checker_right.b1 (syntax_checker_right.r fu) n (d : Int) (g2 : Int)) ((i : Int), (sets : Int), (a : Int))) := by
      intro g2 hg2 l
      induction l with
      | nil =>
        intro i a hl ha
        have hi : n.Kids.length ≤ i := List.drop_eq_nil_iff.1 hl
        rw [formL, metL]
        refine Loop_end (R := some (true, (⟨(sets : Int), (a : Int)⟩ : Tsyntax_checker))) ?_
        simp only [syntax_checker_right.b1]
        rw [if_neg (by simp; omega)]; rfl
      | cons x l ihl =>
        intro i a hl ha
        obtain ⟨hil, hx, hdr⟩ := drop_cons hl
        have hmem : x ∈ n.Kids := by rw [← hx]; exact List.getElem_mem hil
        have hb : syntax_checker_right.b1 (syntax_checker_right.r fu) n (d : Int) (g2 : Int) ((i : Int), (sets : Int), (a : Int)) = syntax_checker_right.k3 (syntax_checker_right.r fu) (g2 : Int) (i : Int) (sets : Int) (a : Int) x ((moreN n.Kind x d : Nat) : Int) := by
          simp only [syntax_checker_right.b1]
          rw [if_pos (by simpa using hil), idx_nat, List.getElem?_eq_getElem hil, Option.bind_some, pOpen, Option.bind_some, hx]
          unfold moreN
          cases openB n.Kind x with
          | true => rw [if_pos rfl, if_pos rfl, w64s (by omega)]
          | false => rw [if_neg (by simp), if_neg (by simp)]
        rw [formL, metL]
        by_cases hm : moreN n.Kind x d ≤ 20
        · have hkid := ih x hmem fu (moreN n.Kind x d) g2 a (by have := nsize_kid hmem; omega) (by have := nsize_kid hmem; omega) hm hg2 ha
          rw [decide_eq_true hm, Bool.true_and]
          have hbad : (∃ c, syntax_checker_right.r fu ⟨(sets : Int), (a : Int)⟩ x ((moreN n.Kind x d : Nat) : Int) (g2 : Int) = some (false, c)) → ∃ c, Loop (syntax_checker_right.b1 (syntax_checker_right.r fu) n (d : Int) (g2 : Int)) ((i : Int), (sets : Int), (a : Int)) = some (false, c) := fun ⟨c, hc⟩ => by
            refine ⟨c, Loop_done (hb.trans ?_)⟩
            unfold syntax_checker_right.k3
            rw [if_neg (by simp; omega), hc]; rfl
          cases hf : formB sets x (moreN n.Kind x d) g2 with
          | false =>
            rw [hf] at hkid
            rw [Bool.false_and]
            exact hbad hkid
          | true =>
            rw [hf] at hkid
            rw [Bool.true_and]
            cases hq : metS x a with
            | none =>
              rw [hq] at hkid
              have := hbad hkid
              cases formL sets n.Kind l d g2 <;> exact this
            | some q =>
              rw [hq] at hkid
              have hkid' : syntax_checker_right.r fu ⟨(sets : Int), (a : Int)⟩ x ((moreN n.Kind x d : Nat) : Int) (g2 : Int) = some (true, ⟨(sets : Int), (q : Int)⟩) := hkid
              have hnext : syntax_checker_right.b1 (syntax_checker_right.r fu) n (d : Int) (g2 : Int) ((i : Int), (sets : Int), (a : Int)) = some (.next (((i + 1 : Nat) : Int), (sets : Int), (q : Int))) := by
                refine hb.trans ?_
                unfold syntax_checker_right.k3
                rw [if_neg (by simp; omega), hkid']
                simp only [Option.bind_some, Bool.not_true]
                rw [if_neg (by simp), w64s (by omega)]
              rw [Loop_next hnext]
              exact ihl (i + 1) q hdr (metS_le sets x _ _ a q hf ha hq)
        · rw [decide_eq_false hm, Bool.false_and]
          refine ⟨(⟨(sets : Int), (a : Int)⟩ : Tsyntax_checker), Loop_done (hb.trans ?_)⟩
          unfold syntax_checker_right.k3
          rw [if_pos (by simp; omega)]; rfl
    have hk1 : ∀ g1 : Nat, g1 ≤ 4 → g1 = signsN n.Kind g → RightOk sets (decide (n.Set = 0) && (fitsB n.Kind n.Kids.length && (decide (signsN n.Kind g ≤ 3) && formL sets n.Kind n.Kids d (signsN n.Kind g)))) (metL n.Kids a) (syntax_checker_right.k1 (syntax_checker_right.r fu) ⟨(sets : Int), (a : Int)⟩ n (d : Int) (g1 : Int)) := fun g1 hg1 e => by
      subst e
      unfold syntax_checker_right.k1
      rw [pFits (by omega), Option.bind_some]
      cases hf : fitsB n.Kind n.Kids.length with
      | false =>
        rw [if_pos (by simp), Option.bind_some, if_pos rfl, Bool.false_and, Bool.and_false]
        exact ⟨_, rfl⟩
      | true =>
        rw [if_neg (by simp), Bool.true_and]
        by_cases hs : n.Set = 0
        · rw [if_neg (by simpa using hs), Option.bind_some, decide_eq_true hs, Bool.true_and]
          by_cases hg3 : signsN n.Kind g ≤ 3
          · rw [if_neg (by simp; omega), decide_eq_true hg3, Bool.true_and]
            exact loop _ hg3 n.Kids 0 a rfl ha
          · rw [if_pos (by simp; omega), decide_eq_false hg3, Bool.false_and]
            exact ⟨_, rfl⟩
        · rw [if_pos (by simpa using hs), Option.bind_some, if_pos rfl, decide_eq_false hs, Bool.false_and]
          exact ⟨_, rfl⟩
    cases hb : signB n.Kind with
    | true =>
      have hsn : signsN n.Kind g = g + 1 := by unfold signsN; rw [hb]; rfl
      rw [if_neg (by simp), w64s (by omega)]
      exact hk1 (g + 1) (by omega) hsn.symm
    | false =>
      have hsn : signsN n.Kind g = 0 := by unfold signsN; rw [hb]; rfl
      rw [if_pos (by simp)]
      exact hk1 0 (by omega) hsn.symm
end
end Go.Val

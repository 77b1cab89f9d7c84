/- A value semantics of the model's programs, sound against it, and functions read off the given program with the proofs that it runs so; no condition. -/
import Derived.Test.YtgekjbingaghaaaOwnD
import Derived.Test.YtgekjbingaghaaaOwnC
set_option linter.all false
set_option linter.unnecessarySimpa false
set_option linter.unusedVariables false
set_option linter.unusedSimpArgs false
/- part IW113 -/
/- (*scansion/lex.reader).letter runs as it is read off. -/
namespace Go.Val
set_option linter.unusedVariables false
set_option linter.unusedSimpArgs false
set_option maxRecDepth 20000
open Go.Proofs
theorem lex_reader_letter_runs (r : Tlex_reader) (l0 : Nat) {h : Heap} (ha0 : h.at_ l0 = some (.cells [.val (.sl (List.map eUnit r.units)), .val (.int .i64 r.place), .val (.int .i64 r.whole), .val (.int .i64 r.fault)])) {a : (Int × Tlex_reader)} (e : lex_reader_letter r = some a) :
    Runs CT 113 [.cv (.val (.ptr (some (l0, 0))))] h fun o h' => o = [.cv (.val (.int .i64 a.1))] ∧ h' = (h.upd l0 (.cells [.val (.sl (List.map eUnit a.2.units)), .val (.int .i64 a.2.place), .val (.int .i64 a.2.whole), .val (.int .i64 a.2.fault)])) := by
  refine Runs.start Try.f113 _ Try.func113 rfl (by rw [Try.ntmps113]; simp) (by rfl) (by rfl) (fun hwf hu => ?_)
  have hl0 := (hwf _ _ ha0).1
  have kl0 := locF hl0
  obtain ⟨D, hD, hr⟩ : ∃ D : (Int × Tlex_reader) → Prop, (∀ z, D z → z = a) ∧ Holds (lex_reader_letter r) D := ⟨fun z => z = a, fun _ h => h, Holds.intro e rfl⟩
  dsimp only [lex_reader_letter] at hr
  change wpCode _ _ _ _ _ ⟨[(0, .cv (.val (.ptr (some (l0, 0)))))], h.on []⟩
  refine w_seq ?_
  refine w_region rfl (by simp (disch := (apply Apart.mk; decide)) only [go_sem, Nat.reduceAdd, Nat.reduceLT, Nat.reduceMul, Nat.reduceLeDiff, Int.reduceToNat, Int.reduceLT, Int.reduceLE, ha0, on_atB hl0, lt_add hl0, lt_at hl0, on_updB hl0, on_atU hl0, on_updU hl0, upd_same ha0]; rfl) ?_
  refine w_n ?_
  refine w_seq ?_
  refine A_ops ?_
  refine w_upto 1 rfl (by simp (disch := (apply Apart.mk; decide)) only [go_sem, Nat.reduceAdd, Nat.reduceLT, Nat.reduceMul, Nat.reduceLeDiff, Int.reduceToNat, Int.reduceLT, Int.reduceLE, ha0, on_atB hl0, lt_add hl0, lt_at hl0, on_updB hl0, on_atU hl0, on_updU hl0, upd_same ha0]; rfl) ?_
  obtain ⟨r1, eF1, hr⟩ := hr.bind
  refine w_call' (out := ?o_eF1) (hp := ?p_eF1) rfl (by simp (disch := (apply Apart.mk; decide)) only [go_sem, Nat.reduceAdd, Nat.reduceLT, Nat.reduceMul, Nat.reduceLeDiff, Int.reduceToNat, Int.reduceLT, Int.reduceLE, ha0, on_atB hl0, lt_add hl0, lt_at hl0, on_updB hl0, on_atU hl0, on_updU hl0, upd_same ha0, Option.getD_some]; rfl) (by simp (disch := (apply Apart.mk; decide)) only [go_sem, Nat.reduceAdd, Nat.reduceLT, Nat.reduceMul, Nat.reduceLeDiff, Int.reduceToNat, Int.reduceLT, Int.reduceLE, ha0, on_atB hl0, lt_add hl0, lt_at hl0, on_updB hl0, on_atU hl0, on_updU hl0, upd_same ha0, Option.getD_some]; rfl) (by simp (disch := (apply Apart.mk; decide)) only [go_sem, Nat.reduceAdd, Nat.reduceLT, Nat.reduceMul, Nat.reduceLeDiff, Int.reduceToNat, Int.reduceLT, Int.reduceLE, ha0, on_atB hl0, lt_add hl0, lt_at hl0, on_updB hl0, on_atU hl0, on_updU hl0, upd_same ha0, Option.getD_some]; rfl) ?c_eF1 ?d_eF1 ?_
  case c_eF1 => (refine lex_reader_take_runs r (lex_reader_letter_1) (l0) _ _ ?_ ?_ ?_ eF1; (exact (fun os x0 r e => lex_reader_letter_1_runs x0 e)); (exact (fun i => by simp [CT])); (simp (disch := (apply Apart.mk; decide)) only [go_sem, Nat.reduceAdd, Nat.reduceLT, Nat.reduceMul, Nat.reduceLeDiff, Int.reduceToNat, Int.reduceLT, Int.reduceLE, ha0, on_atB hl0, lt_add hl0, lt_at hl0, on_updB hl0, on_atU hl0, on_updU hl0, upd_same ha0]))
  case d_eF1 => rfl
  refine w_ops_end (by simp (disch := (apply Apart.mk; decide)) only [go_sem, Nat.reduceAdd, Nat.reduceLT, Nat.reduceMul, Nat.reduceLeDiff, Int.reduceToNat, Int.reduceLT, Int.reduceLE, ha0, on_atB hl0, lt_add hl0, lt_at hl0, on_updB hl0, on_atU hl0, on_updU hl0, upd_same ha0]; rfl) ?_
  refine w_n ?_
  refine w_seq ?_
  refine w_joinR (sj := ⟨[(0, .cv (.val (.ptr (some (l0, 0))))), (3, .cv (.val (.int .i64 r1.1))), (14, .cv (.val (.bool ((r1.1 != (92 : Int)) || (r1.2.fault != (0 : Int))))))], (h.upd l0 (.cells [.val (.sl (List.map eUnit r1.2.units)), .val (.int .i64 r1.2.place), .val (.int .i64 r1.2.whole), .val (.int .i64 r1.2.fault)])).on []⟩) (A_ops ?_) ?_
  · refine w_upto 3 rfl (by simp (disch := (apply Apart.mk; decide)) only [go_sem, Nat.reduceAdd, Nat.reduceLT, Nat.reduceMul, Nat.reduceLeDiff, Int.reduceToNat, Int.reduceLT, Int.reduceLE, ha0, on_atB hl0, lt_add hl0, lt_at hl0, on_updB hl0, on_atU hl0, on_updU hl0, upd_same ha0]; rfl) ?_
    rcases Bool.eq_false_or_eq_true (r1.1 != (92 : Int)) with cF2 | cF2
    · refine w_ops_end (by simp (disch := (apply Apart.mk; decide)) only [go_sem, Nat.reduceAdd, Nat.reduceLT, Nat.reduceMul, Nat.reduceLeDiff, Int.reduceToNat, Int.reduceLT, Int.reduceLE, ha0, on_atB hl0, lt_add hl0, lt_at hl0, on_updB hl0, on_atU hl0, on_updU hl0, upd_same ha0, cF2]; rfl) ?_
      exact w_k (To.cut (h := (h.upd l0 (.cells [.val (.sl (List.map eUnit r1.2.units)), .val (.int .i64 r1.2.place), .val (.int .i64 r1.2.whole), .val (.int .i64 r1.2.fault)]))) (WF.upd hwf hl0 (by simp (disch := (apply Apart.mk; decide)) only [go_sem, Nat.reduceAdd, Nat.reduceLT, Nat.reduceMul, Nat.reduceLeDiff, Int.reduceToNat, Int.reduceLT, Int.reduceLE, ha0, on_atB hl0, lt_add hl0, lt_at hl0, on_updB hl0, on_atU hl0, on_updU hl0, upd_same ha0])) (Nat.le_refl _) (by first | rfl | (simp (disch := (apply Apart.mk; decide)) only [go_sem, Nat.reduceAdd, Nat.reduceLT, Nat.reduceMul, Nat.reduceLeDiff, Int.reduceToNat, Int.reduceLT, Int.reduceLE, ha0, on_atB hl0, lt_add hl0, lt_at hl0, on_updB hl0, on_atU hl0, on_updU hl0, upd_same ha0, cF2]; rfl)) (by simp (disch := (apply Apart.mk; decide)) only [go_sem, Nat.reduceAdd, Nat.reduceLT, Nat.reduceMul, Nat.reduceLeDiff, Int.reduceToNat, Int.reduceLT, Int.reduceLE, ha0, on_atB hl0, lt_add hl0, lt_at hl0, on_updB hl0, on_atU hl0, on_updU hl0, upd_same ha0, cF2]))
    · refine w_ops_end (by simp (disch := (apply Apart.mk; decide)) only [go_sem, Nat.reduceAdd, Nat.reduceLT, Nat.reduceMul, Nat.reduceLeDiff, Int.reduceToNat, Int.reduceLT, Int.reduceLE, ha0, on_atB hl0, lt_add hl0, lt_at hl0, on_updB hl0, on_atU hl0, on_updU hl0, upd_same ha0, cF2]; rfl) ?_
      exact w_k (To.cut (h := (h.upd l0 (.cells [.val (.sl (List.map eUnit r1.2.units)), .val (.int .i64 r1.2.place), .val (.int .i64 r1.2.whole), .val (.int .i64 r1.2.fault)]))) (WF.upd hwf hl0 (by simp (disch := (apply Apart.mk; decide)) only [go_sem, Nat.reduceAdd, Nat.reduceLT, Nat.reduceMul, Nat.reduceLeDiff, Int.reduceToNat, Int.reduceLT, Int.reduceLE, ha0, on_atB hl0, lt_add hl0, lt_at hl0, on_updB hl0, on_atU hl0, on_updU hl0, upd_same ha0])) (Nat.le_refl _) (by first | rfl | (simp (disch := (apply Apart.mk; decide)) only [go_sem, Nat.reduceAdd, Nat.reduceLT, Nat.reduceMul, Nat.reduceLeDiff, Int.reduceToNat, Int.reduceLT, Int.reduceLE, ha0, on_atB hl0, lt_add hl0, lt_at hl0, on_updB hl0, on_atU hl0, on_updU hl0, upd_same ha0, cF2]; rfl)) (by simp (disch := (apply Apart.mk; decide)) only [go_sem, Nat.reduceAdd, Nat.reduceLT, Nat.reduceMul, Nat.reduceLeDiff, Int.reduceToNat, Int.reduceLT, Int.reduceLE, ha0, on_atB hl0, lt_add hl0, lt_at hl0, on_updB hl0, on_atU hl0, on_updU hl0, upd_same ha0, cF2]))
  refine w_condH (by simp (disch := (apply Apart.mk; decide)) only [go_sem, Nat.reduceAdd, Nat.reduceLT, Nat.reduceMul, Nat.reduceLeDiff, Int.reduceToNat, Int.reduceLT, Int.reduceLE, ha0, on_atB hl0, lt_add hl0, lt_at hl0, on_updB hl0, on_atU hl0, on_updU hl0, upd_same ha0]) hr (fun cF3 hr => ?_) (fun cF3 hr => ?_)
  · refine w_seq ?_
    refine w_region rfl (by simp (disch := (apply Apart.mk; decide)) only [go_sem, Nat.reduceAdd, Nat.reduceLT, Nat.reduceMul, Nat.reduceLeDiff, Int.reduceToNat, Int.reduceLT, Int.reduceLE, ha0, on_atB hl0, lt_add hl0, lt_at hl0, on_updB hl0, on_atU hl0, on_updU hl0, upd_same ha0, cF3]; rfl) ?_
    refine w_n ?_
    refine w_ret ?_
    obtain rfl := hD _ hr
    exact (w_tr (w_endR (To.cut (os' := []) (sl := [(2, .cv (.val (.int .i64 r1.1)))]) (h := (h.upd l0 (.cells [.val (.sl (List.map eUnit r1.2.units)), .val (.int .i64 r1.2.place), .val (.int .i64 r1.2.whole), .val (.int .i64 r1.2.fault)]))) (WF.upd hwf hl0 (by simp (disch := (apply Apart.mk; decide)) only [go_sem, Nat.reduceAdd, Nat.reduceLT, Nat.reduceMul, Nat.reduceLeDiff, Int.reduceToNat, Int.reduceLT, Int.reduceLE, ha0, on_atB hl0, lt_add hl0, lt_at hl0, on_updB hl0, on_atU hl0, on_updU hl0, upd_same ha0])) (Nat.le_refl _) (by first | rfl | (simp (disch := (apply Apart.mk; decide)) only [go_sem, Nat.reduceAdd, Nat.reduceLT, Nat.reduceMul, Nat.reduceLeDiff, Int.reduceToNat, Int.reduceLT, Int.reduceLE, ha0, on_atB hl0, lt_add hl0, lt_at hl0, on_updB hl0, on_atU hl0, on_updU hl0, upd_same ha0, cF3]; rfl)) (by simp (disch := (apply Apart.mk; decide)) only [go_sem, Nat.reduceAdd, Nat.reduceLT, Nat.reduceMul, Nat.reduceLeDiff, Int.reduceToNat, Int.reduceLT, Int.reduceLE, ha0, on_atB hl0, lt_add hl0, lt_at hl0, on_updB hl0, on_atU hl0, on_updU hl0, upd_same ha0, cF3])) (by simp (disch := (apply Apart.mk; decide)) only [go_sem, Nat.reduceAdd, Nat.reduceLT, Nat.reduceMul, Nat.reduceLeDiff, Int.reduceToNat, Int.reduceLT, Int.reduceLE, ha0, on_atB hl0, lt_add hl0, lt_at hl0, on_updB hl0, on_atU hl0, on_updU hl0, upd_same ha0, Try.results113, results_data CT_gives113, resCell, resVal.eq_2, loadOp_sv, cF3]) ⟨rfl, on_nil (h := (h.upd l0 (.cells [.val (.sl (List.map eUnit r1.2.units)), .val (.int .i64 r1.2.place), .val (.int .i64 r1.2.whole), .val (.int .i64 r1.2.fault)]))) (WF.upd hwf hl0 (by simp (disch := (apply Apart.mk; decide)) only [go_sem, Nat.reduceAdd, Nat.reduceLT, Nat.reduceMul, Nat.reduceLeDiff, Int.reduceToNat, Int.reduceLT, Int.reduceLE, ha0, on_atB hl0, lt_add hl0, lt_at hl0, on_updB hl0, on_atU hl0, on_updU hl0, upd_same ha0]))⟩))
  · refine w_skip ?_
    refine w_n ?_
    refine w_seq ?_
    refine A_ops ?_
    refine w_upto 1 rfl (by simp (disch := (apply Apart.mk; decide)) only [go_sem, Nat.reduceAdd, Nat.reduceLT, Nat.reduceMul, Nat.reduceLeDiff, Int.reduceToNat, Int.reduceLT, Int.reduceLE, ha0, on_atB hl0, lt_add hl0, lt_at hl0, on_updB hl0, on_atU hl0, on_updU hl0, upd_same ha0]; rfl) ?_
    obtain ⟨r2, eF4, hr⟩ := hr.bind
    refine w_call' (out := ?o_eF4) (hp := ?p_eF4) rfl (by simp (disch := (apply Apart.mk; decide)) only [go_sem, Nat.reduceAdd, Nat.reduceLT, Nat.reduceMul, Nat.reduceLeDiff, Int.reduceToNat, Int.reduceLT, Int.reduceLE, ha0, on_atB hl0, lt_add hl0, lt_at hl0, on_updB hl0, on_atU hl0, on_updU hl0, upd_same ha0, Option.getD_some]; rfl) (by simp (disch := (apply Apart.mk; decide)) only [go_sem, Nat.reduceAdd, Nat.reduceLT, Nat.reduceMul, Nat.reduceLeDiff, Int.reduceToNat, Int.reduceLT, Int.reduceLE, ha0, on_atB hl0, lt_add hl0, lt_at hl0, on_updB hl0, on_atU hl0, on_updU hl0, upd_same ha0, Option.getD_some]; rfl) (by simp (disch := (apply Apart.mk; decide)) only [go_sem, Nat.reduceAdd, Nat.reduceLT, Nat.reduceMul, Nat.reduceLeDiff, Int.reduceToNat, Int.reduceLT, Int.reduceLE, ha0, on_atB hl0, lt_add hl0, lt_at hl0, on_updB hl0, on_atU hl0, on_updU hl0, upd_same ha0, Option.getD_some]; rfl) ?c_eF4 ?d_eF4 ?_
    case c_eF4 => (refine lex_reader_take_runs r1.2 (lex_reader_letter_2) (l0) _ _ ?_ ?_ ?_ eF4; (exact (fun os x0 r e => lex_reader_letter_2_runs x0 e)); (exact (fun i => by simp [CT])); (simp (disch := (apply Apart.mk; decide)) only [go_sem, Nat.reduceAdd, Nat.reduceLT, Nat.reduceMul, Nat.reduceLeDiff, Int.reduceToNat, Int.reduceLT, Int.reduceLE, ha0, on_atB hl0, lt_add hl0, lt_at hl0, on_updB hl0, on_atU hl0, on_updU hl0, upd_same ha0]))
    case d_eF4 => rfl
    refine w_ops_end (by simp (disch := (apply Apart.mk; decide)) only [go_sem, Nat.reduceAdd, Nat.reduceLT, Nat.reduceMul, Nat.reduceLeDiff, Int.reduceToNat, Int.reduceLT, Int.reduceLE, ha0, on_atB hl0, lt_add hl0, lt_at hl0, on_updB hl0, on_atU hl0, on_updU hl0, upd_same ha0]; rfl) ?_
    refine w_n ?_
    refine w_seq ?_
    refine w_seq ?_
    refine w_region rfl (by simp (disch := (apply Apart.mk; decide)) only [go_sem, Nat.reduceAdd, Nat.reduceLT, Nat.reduceMul, Nat.reduceLeDiff, Int.reduceToNat, Int.reduceLT, Int.reduceLE, ha0, on_atB hl0, lt_add hl0, lt_at hl0, on_updB hl0, on_atU hl0, on_updU hl0, upd_same ha0, cF3]; rfl) ?_
    refine w_n ?_
    refine w_condH (by simp (disch := (apply Apart.mk; decide)) only [go_sem, Nat.reduceAdd, Nat.reduceLT, Nat.reduceMul, Nat.reduceLeDiff, Int.reduceToNat, Int.reduceLT, Int.reduceLE, ha0, on_atB hl0, lt_add hl0, lt_at hl0, on_updB hl0, on_atU hl0, on_updU hl0, upd_same ha0, cF3]) hr (fun cF5 hr => ?_) (fun cF5 hr => ?_)
    · refine w_seq ?_
      refine w_region rfl (by simp (disch := (apply Apart.mk; decide)) only [go_sem, Nat.reduceAdd, Nat.reduceLT, Nat.reduceMul, Nat.reduceLeDiff, Int.reduceToNat, Int.reduceLT, Int.reduceLE, ha0, on_atB hl0, lt_add hl0, lt_at hl0, on_updB hl0, on_atU hl0, on_updU hl0, upd_same ha0, cF3, cF5]; rfl) ?_
      refine w_n ?_
      refine w_ret ?_
      obtain rfl := hD _ hr
      exact (w_tr (w_endR (To.cut (os' := []) (sl := [(2, .cv (.val (.int .i64 r2.1)))]) (h := (h.upd l0 (.cells [.val (.sl (List.map eUnit r2.2.units)), .val (.int .i64 r2.2.place), .val (.int .i64 r2.2.whole), .val (.int .i64 r2.2.fault)]))) (WF.upd hwf hl0 (by simp (disch := (apply Apart.mk; decide)) only [go_sem, Nat.reduceAdd, Nat.reduceLT, Nat.reduceMul, Nat.reduceLeDiff, Int.reduceToNat, Int.reduceLT, Int.reduceLE, ha0, on_atB hl0, lt_add hl0, lt_at hl0, on_updB hl0, on_atU hl0, on_updU hl0, upd_same ha0])) (Nat.le_refl _) (by first | rfl | (simp (disch := (apply Apart.mk; decide)) only [go_sem, Nat.reduceAdd, Nat.reduceLT, Nat.reduceMul, Nat.reduceLeDiff, Int.reduceToNat, Int.reduceLT, Int.reduceLE, ha0, on_atB hl0, lt_add hl0, lt_at hl0, on_updB hl0, on_atU hl0, on_updU hl0, upd_same ha0, cF3, cF5]; rfl)) (by simp (disch := (apply Apart.mk; decide)) only [go_sem, Nat.reduceAdd, Nat.reduceLT, Nat.reduceMul, Nat.reduceLeDiff, Int.reduceToNat, Int.reduceLT, Int.reduceLE, ha0, on_atB hl0, lt_add hl0, lt_at hl0, on_updB hl0, on_atU hl0, on_updU hl0, upd_same ha0, cF3, cF5])) (by simp (disch := (apply Apart.mk; decide)) only [go_sem, Nat.reduceAdd, Nat.reduceLT, Nat.reduceMul, Nat.reduceLeDiff, Int.reduceToNat, Int.reduceLT, Int.reduceLE, ha0, on_atB hl0, lt_add hl0, lt_at hl0, on_updB hl0, on_atU hl0, on_updU hl0, upd_same ha0, Try.results113, results_data CT_gives113, resCell, resVal.eq_2, loadOp_sv, cF3, cF5]) ⟨rfl, on_nil (h := (h.upd l0 (.cells [.val (.sl (List.map eUnit r2.2.units)), .val (.int .i64 r2.2.place), .val (.int .i64 r2.2.whole), .val (.int .i64 r2.2.fault)]))) (WF.upd hwf hl0 (by simp (disch := (apply Apart.mk; decide)) only [go_sem, Nat.reduceAdd, Nat.reduceLT, Nat.reduceMul, Nat.reduceLeDiff, Int.reduceToNat, Int.reduceLT, Int.reduceLE, ha0, on_atB hl0, lt_add hl0, lt_at hl0, on_updB hl0, on_atU hl0, on_updU hl0, upd_same ha0]))⟩))
    · refine w_skip ?_
      refine w_n ?_
      refine w_seq ?_
      refine A_ops ?_
      refine w_upto 1 rfl (by simp (disch := (apply Apart.mk; decide)) only [go_sem, Nat.reduceAdd, Nat.reduceLT, Nat.reduceMul, Nat.reduceLeDiff, Int.reduceToNat, Int.reduceLT, Int.reduceLE, ha0, on_atB hl0, lt_add hl0, lt_at hl0, on_updB hl0, on_atU hl0, on_updU hl0, upd_same ha0]; rfl) ?_
      obtain ⟨r3, eF6, hr⟩ := hr.bind
      refine w_call' (out := ?o_eF6) (hp := ?p_eF6) rfl (by simp (disch := (apply Apart.mk; decide)) only [go_sem, Nat.reduceAdd, Nat.reduceLT, Nat.reduceMul, Nat.reduceLeDiff, Int.reduceToNat, Int.reduceLT, Int.reduceLE, ha0, on_atB hl0, lt_add hl0, lt_at hl0, on_updB hl0, on_atU hl0, on_updU hl0, upd_same ha0, Option.getD_some]; rfl) (by simp (disch := (apply Apart.mk; decide)) only [go_sem, Nat.reduceAdd, Nat.reduceLT, Nat.reduceMul, Nat.reduceLeDiff, Int.reduceToNat, Int.reduceLT, Int.reduceLE, ha0, on_atB hl0, lt_add hl0, lt_at hl0, on_updB hl0, on_atU hl0, on_updU hl0, upd_same ha0, Option.getD_some]; rfl) (by simp (disch := (apply Apart.mk; decide)) only [go_sem, Nat.reduceAdd, Nat.reduceLT, Nat.reduceMul, Nat.reduceLeDiff, Int.reduceToNat, Int.reduceLT, Int.reduceLE, ha0, on_atB hl0, lt_add hl0, lt_at hl0, on_updB hl0, on_atU hl0, on_updU hl0, upd_same ha0, Option.getD_some]; rfl) ?c_eF6 ?d_eF6 ?_
      case c_eF6 => (refine lex_reader_number_runs r2.2 (l0) ?_ eF6; (simp (disch := (apply Apart.mk; decide)) only [go_sem, Nat.reduceAdd, Nat.reduceLT, Nat.reduceMul, Nat.reduceLeDiff, Int.reduceToNat, Int.reduceLT, Int.reduceLE, ha0, on_atB hl0, lt_add hl0, lt_at hl0, on_updB hl0, on_atU hl0, on_updU hl0, upd_same ha0]))
      case d_eF6 => rfl
      refine w_ops_end (by simp (disch := (apply Apart.mk; decide)) only [go_sem, Nat.reduceAdd, Nat.reduceLT, Nat.reduceMul, Nat.reduceLeDiff, Int.reduceToNat, Int.reduceLT, Int.reduceLE, ha0, on_atB hl0, lt_add hl0, lt_at hl0, on_updB hl0, on_atU hl0, on_updU hl0, upd_same ha0]; rfl) ?_
      refine w_n ?_
      refine w_ret ?_
      obtain rfl := hD _ hr
      exact (w_endR (To.cut (os' := []) (sl := [(2, .cv (.val (.int .i64 r3.1)))]) (h := (h.upd l0 (.cells [.val (.sl (List.map eUnit r3.2.units)), .val (.int .i64 r3.2.place), .val (.int .i64 r3.2.whole), .val (.int .i64 r3.2.fault)]))) (WF.upd hwf hl0 (by simp (disch := (apply Apart.mk; decide)) only [go_sem, Nat.reduceAdd, Nat.reduceLT, Nat.reduceMul, Nat.reduceLeDiff, Int.reduceToNat, Int.reduceLT, Int.reduceLE, ha0, on_atB hl0, lt_add hl0, lt_at hl0, on_updB hl0, on_atU hl0, on_updU hl0, upd_same ha0])) (Nat.le_refl _) (by first | rfl | (simp (disch := (apply Apart.mk; decide)) only [go_sem, Nat.reduceAdd, Nat.reduceLT, Nat.reduceMul, Nat.reduceLeDiff, Int.reduceToNat, Int.reduceLT, Int.reduceLE, ha0, on_atB hl0, lt_add hl0, lt_at hl0, on_updB hl0, on_atU hl0, on_updU hl0, upd_same ha0, cF3, cF5]; rfl)) (by simp (disch := (apply Apart.mk; decide)) only [go_sem, Nat.reduceAdd, Nat.reduceLT, Nat.reduceMul, Nat.reduceLeDiff, Int.reduceToNat, Int.reduceLT, Int.reduceLE, ha0, on_atB hl0, lt_add hl0, lt_at hl0, on_updB hl0, on_atU hl0, on_updU hl0, upd_same ha0, cF3, cF5])) (by simp (disch := (apply Apart.mk; decide)) only [go_sem, Nat.reduceAdd, Nat.reduceLT, Nat.reduceMul, Nat.reduceLeDiff, Int.reduceToNat, Int.reduceLT, Int.reduceLE, ha0, on_atB hl0, lt_add hl0, lt_at hl0, on_updB hl0, on_atU hl0, on_updU hl0, upd_same ha0, Try.results113, results_data CT_gives113, resCell, resVal.eq_2, loadOp_sv, cF3, cF5]) ⟨rfl, on_nil (h := (h.upd l0 (.cells [.val (.sl (List.map eUnit r3.2.units)), .val (.int .i64 r3.2.place), .val (.int .i64 r3.2.whole), .val (.int .i64 r3.2.fault)]))) (WF.upd hwf hl0 (by simp (disch := (apply Apart.mk; decide)) only [go_sem, Nat.reduceAdd, Nat.reduceLT, Nat.reduceMul, Nat.reduceLeDiff, Int.reduceToNat, Int.reduceLT, Int.reduceLE, ha0, on_atB hl0, lt_add hl0, lt_at hl0, on_updB hl0, on_atU hl0, on_updU hl0, upd_same ha0]))⟩)
end Go.Val

/- part IW93 -/
/- slices.Clone at ranges: by hand (an empty slice may be nil, or not). -/
namespace Go.Val
set_option linter.unusedVariables false
set_option linter.unusedSimpArgs false
set_option maxRecDepth 20000
open Go.Proofs
theorem slices_Clone_api_Range_api_Range_runs (s : List TRange) {h : Heap} {a : List TRange} (e : slices_Clone_api_Range_api_Range s = some a) :
    Runs CT 93 [.cv (.val (.sl (List.map eRange s)))] h fun o h' => o = [.cv (.row 80 (List.map eRange a))] ∧ h' = h := by
  refine Runs.start Try.f93 _ Try.func93 rfl (by rw [Try.ntmps93]; simp) (by rfl) (by rfl) (fun hwf hu => ?_)
  have hr : Holds (slices_Clone_api_Range_api_Range s) (fun z => z = a) := Holds.intro e rfl
  unfold slices_Clone_api_Range_api_Range at hr
  obtain ⟨nF1, hr⟩ := hr.room
  obtain rfl : s = a := hr
  change wpCode _ _ _ _ _ ⟨[(0, .cv (.val (.sl (List.map eRange s))))], h.on []⟩
  refine w_seq ?_
  refine A_region ?_
  refine w_n ?_
  refine w_seq ?_
  refine w_seq ?_
  refine A_ops ?_
  refine A_upto 1 ?_
  refine w_nilCmp rfl Try.underlying31 (by simp (disch := (apply Apart.mk; decide)) only [go_sem, Nat.reduceAdd, Nat.reduceLT]; rfl) (fun b hb => ?_)
  refine w_ops_nil ?_
  refine w_n ?_
  cases b with
  | true =>
    have hs : s = [] := by
      cases s with
      | nil => rfl
      | cons x l => exact absurd (hb (by simp)) (by simp)
    subst hs
    refine A_cond true (fun _ => ?_) (fun e => by cases e)
    refine w_seq ?_
    refine A_region ?_
    refine w_n ?_
    refine w_ret ?_
    exact (w_tr (A_endR (A_cut (os' := []) (sl := [(2, .cv (.row 80 (List.map eRange ([] : List TRange))))]) hwf) ⟨rfl, on_nil hwf⟩))
  | false =>
    refine A_cond false (fun e => by cases e) (fun _ => ?_)
    refine w_skip ?_
    refine w_n ?_
    refine w_seq ?_
    refine A_region ?_
    refine w_n ?_
    refine w_ret ?_
    exact (A_endR (A_cut (os' := []) (sl := [(2, .cv (.row 80 (List.map eRange s)))]) hwf) ⟨rfl, on_nil hwf⟩)
end Go.Val

/- part IW91 -/
/- scansion/ranges.Make$1 runs as it is read off. -/
namespace Go.Val
set_option linter.unusedVariables false
set_option linter.unusedSimpArgs false
set_option maxRecDepth 20000
open Go.Proofs
theorem ranges_Make_1_runs (x : TRange) {h : Heap} {a : Bool} (e : ranges_Make_1 x = some a) :
    Runs CT 91 [.cv (.val (.agg [.int .i64 x.Low, .int .i64 x.High]))] h fun o h' => o = [.cv (.val (.bool a))] ∧ h' = h := by
  refine Runs.start Try.f91 _ Try.func91 rfl (by rw [Try.ntmps91]; simp) (by rfl) (by rfl) (fun hwf hu => ?_)
  obtain ⟨D, hD, hr⟩ : ∃ D : Bool → Prop, (∀ z, D z → z = a) ∧ Holds (ranges_Make_1 x) D := ⟨fun z => z = a, fun _ h => h, Holds.intro e rfl⟩
  dsimp only [ranges_Make_1] at hr
  change wpCode _ _ _ _ _ ⟨[(0, .cv (.val (.agg [.int .i64 x.Low, .int .i64 x.High])))], h.on []⟩
  refine w_seq ?_
  refine A_region ?_
  refine w_n ?_
  refine w_joinR (sj := ⟨[(2, .cv (.val (.bool ((decide (x.Low < (0 : Int))) || ((decide (x.High > (1114111 : Int))) || (decide (x.Low > x.High)))))))], h.on []⟩) (A_ops ?_) ?_
  · refine A_upto 4 ?_
    rcases Bool.eq_false_or_eq_true (decide (x.Low < (0 : Int))) with cF1 | cF1
    · refine A_ops_end ?_
      exact w_k (A_cut hwf)
    · refine A_upto 5 ?_
      rcases Bool.eq_false_or_eq_true (decide (x.High > (1114111 : Int))) with cF2 | cF2
      · refine A_ops_end ?_
        exact w_k (A_cut hwf)
      · refine A_ops_end ?_
        exact w_k (A_cut hwf)
  refine w_ret ?_
  obtain rfl := hD _ hr
  exact (A_endR (A_cut (os' := []) (sl := [(2, .cv (.val (.bool ((decide (x.Low < (0 : Int))) || ((decide (x.High > (1114111 : Int))) || (decide (x.Low > x.High)))))))]) hwf) ⟨rfl, on_nil hwf⟩)
end Go.Val

/- part IW120 -/
/- slices.IndexFunc[[]scansion/api.Range,scansion/api.Range] runs as it is read off. -/
namespace Go.Val
set_option linter.unusedVariables false
set_option linter.unusedSimpArgs false
set_option maxRecDepth 20000
open Go.Proofs
theorem slices_IndexFunc_api_Range_api_Range_runs (s : List TRange) (f : TRange → Option Bool) (fid_f : FuncId) (caps_f : List DVal) {h : Heap} (h_f : ∀ os x0 r, f x0 = some r → Runs CT fid_f ([.cv (.val (.agg [.int .i64 x0.Low, .int .i64 x0.High]))] ++ sval caps_f) (h.on os) fun o h' => o = [.cv (.val (.bool r))] ∧ h' = h.on os) (d_f : ∀ i, CT.how fid_f i = .data) {a : Int} (e : slices_IndexFunc_api_Range_api_Range s f = some a) :
    Runs CT 120 [.cv (.val (.sl (List.map eRange s))), .cv (.val (.fn fid_f [] caps_f))] h fun o h' => o = [.cv (.val (.int .i64 a))] ∧ h' = h := by
  refine Runs.start Try.f120 _ Try.func120 rfl (by rw [Try.ntmps120]; simp) (by rfl) (by rfl) (fun hwf hu => ?_)
  have u_f : underL h.n caps_f := (hu (.cv (.val (.fn fid_f [] caps_f))) (by simp)).2
  have vu_f := fun k => under_add (k := k) u_f
  obtain ⟨D, hD, hr⟩ : ∃ D : Int → Prop, (∀ z, D z → z = a) ∧ Holds (slices_IndexFunc_api_Range_api_Range s f) D := ⟨fun z => z = a, fun _ h => h, Holds.intro e rfl⟩
  dsimp only [slices_IndexFunc_api_Range_api_Range] at hr
  change wpCode _ _ _ _ _ ⟨[(0, .cv (.val (.sl (List.map eRange s)))), (1, .cv (.val (.fn fid_f [] caps_f)))], h.on []⟩
  refine w_seq ?_
  refine A_region ?_
  refine w_n ?_
  refine w_seq ?_
  refine w_seq ?_
  refine A_region ?_
  refine w_n ?_
  refine w_K (D := D) (fun xX : Unit => ⟨[], h.on []⟩) (fun xX : Unit => slices_IndexFunc_api_Range_api_Range.k1) (fun xX s' hr ht => ?_) ?_
  · dsimp only [slices_IndexFunc_api_Range_api_Range.k1] at hr ht
    refine (w_nT ht ?_)
    refine w_seq ?_
    refine A_region ?_
    refine w_n ?_
    refine w_ret ?_
    obtain rfl := hD _ hr
    exact (A_endR (A_cut (os' := []) (sl := [(4, .cv (.val (.int .i64 (-1 : Int))))]) hwf) ⟨rfl, on_nil hwf⟩)
  · refine w_block ?_
    refine w_Loop (fun xX : Int => ⟨[(0, .cv (.val (.sl (List.map eRange s)))), (1, .cv (.val (.fn fid_f [] caps_f))), (7, .cv (.val (.int .i64 (s.length : Int)))), (8, .cv (.val (.int .i64 xX)))], h.on []⟩) hr (A_cut hwf) (fun W1 xX hr => ?_)
    obtain ⟨v, rfl⟩ : ∃ z, z = xX := ⟨xX, rfl⟩
    dsimp only [slices_IndexFunc_api_Range_api_Range.b1] at hr
    refine w_seq ?_
    refine A_region ?_
    refine w_n ?_
    refine w_seq ?_
    refine A_condH hr (fun cF1 hr => ?_) (fun cF1 hr => ?_)
    · refine w_skip ?_
      refine w_n ?_
      refine w_seq ?_
      refine w_block ?_
      refine w_seq ?_
      refine A_region ?_
      refine w_n ?_
      refine w_seq ?_
      refine A_ops ?_
      obtain ⟨x, nF2, eF3, gF4, hr⟩ := hr.idx
      refine A_upto 5 ?_
      obtain ⟨r, eF5, hr⟩ := hr.bind
      refine A_call (out := ?o_eF5) (hp := ?p_eF5) ?c_eF5 ?d_eF5 ?_
      case c_eF5 => exact h_f _ _ _ eF5
      case d_eF5 => rfl
      refine w_ops_nil ?_
      refine w_n ?_
      refine A_condH hr (fun cF6 hr => ?_) (fun cF6 hr => ?_)
      · refine w_seq ?_
        refine A_region ?_
        refine w_n ?_
        refine w_ret ?_
        obtain rfl := hD _ hr
        exact (w_br (w_tr (w_tr (w_br (w_tr (w_tr (A_endR (A_cut (os' := []) (sl := [(4, .cv (.val (.int .i64 v)))]) hwf) ⟨rfl, on_nil hwf⟩)))))))
      · refine w_skip ?_
        refine (w_bn (w_n ?_))
        refine A_region ?_
        exact (w_k ⟨(IntKind.i64.wrap (v + (1 : Int))), hr, (A_cut hwf)⟩)
    · refine w_exit ?_
      exact (w_te (w_te (w_bx (w_k ⟨(), (hr).map, (A_cut hwf)⟩))))
end Go.Val

/- part IW92 -/
/- slices.ContainsFunc[[]scansion/api.Range,scansion/api.Range] runs as it is read off. -/
namespace Go.Val
set_option linter.unusedVariables false
set_option linter.unusedSimpArgs false
set_option maxRecDepth 20000
open Go.Proofs
theorem slices_ContainsFunc_api_Range_api_Range_runs (s : List TRange) (f : TRange → Option Bool) (fid_f : FuncId) (caps_f : List DVal) {h : Heap} (h_f : ∀ os x0 r, f x0 = some r → Runs CT fid_f ([.cv (.val (.agg [.int .i64 x0.Low, .int .i64 x0.High]))] ++ sval caps_f) (h.on os) fun o h' => o = [.cv (.val (.bool r))] ∧ h' = h.on os) (d_f : ∀ i, CT.how fid_f i = .data) {a : Bool} (e : slices_ContainsFunc_api_Range_api_Range s f = some a) :
    Runs CT 92 [.cv (.val (.sl (List.map eRange s))), .cv (.val (.fn fid_f [] caps_f))] h fun o h' => o = [.cv (.val (.bool a))] ∧ h' = h := by
  refine Runs.start Try.f92 _ Try.func92 rfl (by rw [Try.ntmps92]; simp) (by rfl) (by rfl) (fun hwf hu => ?_)
  have u_f : underL h.n caps_f := (hu (.cv (.val (.fn fid_f [] caps_f))) (by simp)).2
  have vu_f := fun k => under_add (k := k) u_f
  obtain ⟨D, hD, hr⟩ : ∃ D : Bool → Prop, (∀ z, D z → z = a) ∧ Holds (slices_ContainsFunc_api_Range_api_Range s f) D := ⟨fun z => z = a, fun _ h => h, Holds.intro e rfl⟩
  dsimp only [slices_ContainsFunc_api_Range_api_Range] at hr
  change wpCode _ _ _ _ _ ⟨[(0, .cv (.val (.sl (List.map eRange s)))), (1, .cv (.val (.fn fid_f [] caps_f)))], h.on []⟩
  refine w_seq ?_
  refine A_region ?_
  refine w_n ?_
  refine w_seq ?_
  refine A_ops ?_
  refine A_upto 2 ?_
  obtain ⟨r, eF1, hr⟩ := hr.bind
  refine A_call (out := ?o_eF1) (hp := ?p_eF1) ?c_eF1 ?d_eF1 ?_
  case c_eF1 => (refine slices_IndexFunc_api_Range_api_Range_runs s f _ _ ?_ ?_ eF1; (exact (fun os x0 r e => by rw [on_on]; exact h_f _ x0 r e)); (exact d_f))
  case d_eF1 => rfl
  refine A_ops_end ?_
  refine w_n ?_
  refine w_ret ?_
  obtain rfl := hD _ hr
  exact (A_endR (A_cut (os' := []) (sl := [(4, .cv (.val (.bool (decide (r ≥ (0 : Int))))))]) hwf) ⟨rfl, on_nil hwf⟩)
end Go.Val

/- part IW97 -/
/- scansion/ranges.put runs as it is read off. -/
namespace Go.Val
set_option linter.unusedVariables false
set_option linter.unusedSimpArgs false
set_option maxRecDepth 20000
open Go.Proofs
theorem ranges_put_runs (l : List TRange) (x : TRange) {h : Heap} {a : List TRange} (e : ranges_put l x = some a) :
    Runs CT 97 [.cv (.row 80 (List.map eRange l)), .cv (.val (.agg [.int .i64 x.Low, .int .i64 x.High]))] h fun o h' => o = [.cv (.row 80 (List.map eRange a))] ∧ h' = h := by
  refine Runs.start Try.f97 _ Try.func97 rfl (by rw [Try.ntmps97]; simp) (by rfl) (by rfl) (fun hwf hu => ?_)
  obtain ⟨D, hD, hr⟩ : ∃ D : List TRange → Prop, (∀ z, D z → z = a) ∧ Holds (ranges_put l x) D := ⟨fun z => z = a, fun _ h => h, Holds.intro e rfl⟩
  dsimp only [ranges_put] at hr
  change wpCode _ _ _ _ _ ⟨[(0, .cv (.row 80 (List.map eRange l))), (1, .cv (.val (.agg [.int .i64 x.Low, .int .i64 x.High])))], h.on []⟩
  refine w_seq ?_
  refine A_region ?_
  refine w_n ?_
  refine w_seq ?_
  refine A_region ?_
  refine w_n ?_
  refine w_seq ?_
  obtain ⟨v, vF5, hr⟩ := hr.bind
  refine w_joinR (sj := ⟨[(0, .cv (.row 80 (List.map eRange l))), (3, .cv (.val (.ptr (some (h.n + 0, 0))))), (5, .cv (.val (.int .i64 (l.length : Int)))), (21, .cv (.val (.bool v)))], h.on [some (.cells [.val (.int .i64 x.Low), .val (.int .i64 x.High)])]⟩) (w_drawn [0, 1, 2, 3, 4, 5, 6, 7, 8, 9, 10, 11, 12, 13] (by rfl) ?_) ?_
  · have hr := Holds.intro (D := fun z => z = v) vF5 rfl
    refine p_run (l := [0, 1, 2]) (pend' := [2, 1, 0]) (by simp (disch := (apply Apart.mk; decide)) only [go_sem, Nat.reduceAdd, Nat.reduceLT, Nat.reduceMul, Nat.reduceLeDiff, Int.reduceToNat, Int.reduceLT, Int.reduceLE]; rfl) rfl ?_
    rcases hr.ite with ⟨cF1, hr⟩ | ⟨cF1, hr⟩
    · obtain ⟨x1, nF2, eF3, gF4, hr⟩ := hr.idx
      refine p_run (l := [3, 4, 5, 6, 7, 8, 9, 10, 11, 12, 13]) (pend' := [13, 12, 11, 10, 9, 8, 7, 6, 5, 4, 3, 2, 1, 0]) (by simp (disch := (apply Apart.mk; decide)) only [go_sem, Nat.reduceAdd, Nat.reduceLT, Nat.reduceMul, Nat.reduceLeDiff, Int.reduceToNat, Int.reduceLT, Int.reduceLE, cF1, nF2, eF3, gF4]; rfl) rfl ?_
      refine p_end (by simp (disch := (apply Apart.mk; decide)) only [go_sem, Nat.reduceAdd, Nat.reduceLT, Nat.reduceMul, Nat.reduceLeDiff, Int.reduceToNat, Int.reduceLT, Int.reduceLE, cF1, nF2, eF3, gF4]) ?_
      obtain rfl : _ = v := hr
      exact w_k (A_cut hwf)
    · refine p_run (l := [3, 4, 5, 6, 7, 8, 9, 10, 11, 12, 13]) (pend' := [13, 12, 11, 10, 9, 8, 7, 6, 5, 4, 3, 2, 1, 0]) (by simp (disch := (apply Apart.mk; decide)) only [go_sem, Nat.reduceAdd, Nat.reduceLT, Nat.reduceMul, Nat.reduceLeDiff, Int.reduceToNat, Int.reduceLT, Int.reduceLE, cF1]; rfl) rfl ?_
      refine p_end (by simp (disch := (apply Apart.mk; decide)) only [go_sem, Nat.reduceAdd, Nat.reduceLT, Nat.reduceMul, Nat.reduceLeDiff, Int.reduceToNat, Int.reduceLT, Int.reduceLE, cF1]) ?_
      obtain rfl : _ = v := hr
      exact w_k (A_cut hwf)
  refine A_condH hr (fun cF6 hr => ?_) (fun cF6 hr => ?_)
  · refine w_seq ?_
    refine w_drawn [0, 1, 2, 3, 4, 5, 6, 7, 8, 9, 10, 11, 12, 13, 14] (by rfl) ?_
    obtain ⟨x2, nF7, eF8, gF9, hr⟩ := hr.idx
    refine p_run (l := [0, 1, 2, 3, 4, 5, 6, 7, 8, 9, 10, 11, 12, 13]) (pend' := [13, 12, 11, 10, 9, 8, 7, 6, 5, 4, 3, 2, 1, 0]) (by simp (disch := (apply Apart.mk; decide)) only [go_sem, Nat.reduceAdd, Nat.reduceLT, Nat.reduceMul, Nat.reduceLeDiff, Int.reduceToNat, Int.reduceLT, Int.reduceLE, nF7, eF8, gF9]; rfl) rfl ?_
    refine p_op (pend' := []) rfl (by simp (disch := (apply Apart.mk; decide)) only [go_sem, Nat.reduceAdd, Nat.reduceLT, Nat.reduceMul, Nat.reduceLeDiff, Int.reduceToNat, Int.reduceLT, Int.reduceLE, nF7, eF8, gF9]) (by simp (disch := (apply Apart.mk; decide)) only [go_sem, Nat.reduceAdd, Nat.reduceLT, Nat.reduceMul, Nat.reduceLeDiff, Int.reduceToNat, Int.reduceLT, Int.reduceLE, nF7, eF8, gF9]; rfl) (by rfl) ?_
    refine p_end (by simp (disch := (apply Apart.mk; decide)) only [go_sem, Nat.reduceAdd, Nat.reduceLT, Nat.reduceMul, Nat.reduceLeDiff, Int.reduceToNat, Int.reduceLT, Int.reduceLE, nF7, eF8, gF9, nF7, eF8, gF9]) ?_
    refine w_n ?_
    refine w_seq ?_
    refine A_region ?_
    refine w_n ?_
    refine w_ret ?_
    obtain rfl := hD _ hr
    exact (w_tr (A_endR (A_cut (os' := []) (sl := [(4, .cv (.row 80 (List.map eRange (List.set l (Int.toNat (IntKind.i64.wrap ((l.length : Int) - (1 : Int)))) (TRange.mk x2.Low (mx x2.High x.High))))))]) hwf) ⟨rfl, on_nil hwf⟩))
  · refine w_skip ?_
    refine w_n ?_
    refine w_seq ?_
    obtain ⟨nF10, hr⟩ := hr.room
    refine A_region ?_
    refine w_n ?_
    refine w_ret ?_
    obtain rfl := hD _ hr
    exact (A_endR (A_cut (os' := []) (sl := [(4, .cv (.row 80 (List.map eRange (l ++ ([x])))))]) hwf) ⟨rfl, on_nil hwf⟩)
end Go.Val

/- part IW64 -/
/- scansion/ranges.Make runs as it is read off. -/
namespace Go.Val
set_option linter.unusedVariables false
set_option linter.unusedSimpArgs false
set_option maxRecDepth 20000
open Go.Proofs
theorem ranges_Make_runs (l : List TRange) {h : Heap} {a : (List TRange × Int)} (e : ranges_Make l = some a) :
    Runs CT 64 [.cv (.val (.sl (List.map eRange l)))] h fun o h' => o = [.cv (.val (.sl (List.map eRange a.1))), .cv (.val (.int .i64 a.2))] ∧ h' = h := by
  refine Runs.start Try.f64 _ Try.func64 rfl (by rw [Try.ntmps64]; simp) (by rfl) (by rfl) (fun hwf hu => ?_)
  obtain ⟨D, hD, hr⟩ : ∃ D : (List TRange × Int) → Prop, (∀ z, D z → z = a) ∧ Holds (ranges_Make l) D := ⟨fun z => z = a, fun _ h => h, Holds.intro e rfl⟩
  dsimp only [ranges_Make] at hr
  change wpCode _ _ _ _ _ ⟨[(0, .cv (.val (.sl (List.map eRange l))))], h.on []⟩
  refine w_seq ?_
  refine A_region ?_
  refine w_n ?_
  refine w_seq ?_
  refine A_region ?_
  refine w_n ?_
  refine w_seq ?_
  refine w_seq ?_
  refine A_ops ?_
  refine A_upto 2 ?_
  obtain ⟨r, eF1, hr⟩ := hr.bind
  refine A_call (out := ?o_eF1) (hp := ?p_eF1) ?c_eF1 ?d_eF1 ?_
  case c_eF1 => (refine slices_ContainsFunc_api_Range_api_Range_runs l (ranges_Make_1) _ _ ?_ ?_ eF1; (exact (fun os x0 r e => ranges_Make_1_runs x0 e)); (exact (fun i => by simp [CT])))
  case d_eF1 => rfl
  refine w_ops_nil ?_
  refine w_n ?_
  refine A_condH hr (fun cF2 hr => ?_) (fun cF2 hr => ?_)
  · refine w_seq ?_
    refine A_region ?_
    refine w_n ?_
    refine w_ret ?_
    obtain rfl := hD _ hr
    exact (w_tr (A_endR (A_cut (os' := []) (sl := [(2, .cv (.val (.sl (List.map eRange ([] : List TRange))))), (3, .cv (.val (.int .i64 (1 : Int))))]) hwf) ⟨rfl, on_nil hwf⟩))
  · refine w_skip ?_
    refine w_n ?_
    refine w_seq ?_
    refine A_ops ?_
    refine A_upto 1 ?_
    obtain ⟨r1, eF3, hr⟩ := hr.bind
    refine A_call (out := ?o_eF3) (hp := ?p_eF3) ?c_eF3 ?d_eF3 ?_
    case c_eF3 => exact slices_Clone_api_Range_api_Range_runs l eF3
    case d_eF3 => rfl
    refine A_ops_end ?_
    refine w_n ?_
    refine w_seq ?_
    refine A_ops ?_
    refine A_upto 1 ?_
    obtain ⟨l1, eF4, hr⟩ := hr.bind
    refine w_ext rfl (by simp (disch := (apply Apart.mk; decide)) only [go_sem, Nat.reduceAdd, Nat.reduceLT, Nat.reduceMul, Nat.reduceLeDiff, Int.reduceToNat, Int.reduceLT, Int.reduceLE, Option.getD_some] <;> rfl) rfl (by simp (disch := (apply Apart.mk; decide)) only [go_sem, Nat.reduceAdd, Nat.reduceLT, Nat.reduceMul, Nat.reduceLeDiff, Int.reduceToNat, Int.reduceLT, Int.reduceLE, Option.getD_some] <;> rfl) (by simp (disch := (apply Apart.mk; decide)) only [go_sem, Nat.reduceAdd, Nat.reduceLT, Nat.reduceMul, Nat.reduceLeDiff, Int.reduceToNat, Int.reduceLT, Int.reduceLE, Option.getD_some] <;> rfl) (by simp (disch := (apply Apart.mk; decide)) only [go_sem, Nat.reduceAdd, Nat.reduceLT, Nat.reduceMul, Nat.reduceLeDiff, Int.reduceToNat, Int.reduceLT, Int.reduceLE, Option.getD_some] <;> rfl) (by rfl) (ext_sortR eF4) ?_
    refine w_ops_nil ?_
    refine w_n ?_
    refine w_seq ?_
    refine A_region ?_
    refine w_n ?_
    refine w_seq ?_
    refine w_seq ?_
    refine A_region ?_
    refine w_n ?_
    refine w_K (D := D) (fun xX : List TRange => ⟨[(6, .cv (.row 80 (List.map eRange xX)))], h.on []⟩) (fun xX : List TRange => ranges_Make.k1 xX) (fun xX s' hr ht => ?_) ?_
    · obtain ⟨out, rfl⟩ : ∃ z, z = xX := ⟨xX, rfl⟩
      dsimp only [ranges_Make.k1] at hr ht
      refine (w_nT ht ?_)
      refine w_seq ?_
      refine A_region ?_
      refine w_n ?_
      refine w_ret ?_
      obtain rfl := hD _ hr
      exact (A_endR (.fix _ _ (.slot 2) 80 _ (by simp (disch := (apply Apart.mk; decide)) only [go_sem, Nat.reduceAdd, Nat.reduceLT, Nat.reduceMul, Nat.reduceLeDiff, Int.reduceToNat, Int.reduceLT, Int.reduceLE, cF2]; rfl) (A_cut (os' := []) (sl := [(2, .cv (.val (.sl (List.map eRange out)))), (3, .cv (.val (.int .i64 (0 : Int))))]) hwf)) ⟨rfl, on_nil hwf⟩)
    · refine w_block ?_
      refine w_Loop (fun xX : (List TRange × Int) => ⟨[(5, .cv (.row 80 (List.map eRange l1))), (6, .cv (.row 80 (List.map eRange xX.1))), (16, .alias (.slot 5)), (17, .cv (.val (.int .i64 (l1.length : Int)))), (18, .cv (.val (.int .i64 xX.2)))], h.on []⟩) hr (A_cut hwf) (fun W1 xX hr => ?_)
      obtain ⟨out1, v⟩ := xX
      dsimp only [ranges_Make.b1] at hr
      refine w_seq ?_
      refine A_region ?_
      refine w_n ?_
      refine w_seq ?_
      refine A_condH hr (fun cF5 hr => ?_) (fun cF5 hr => ?_)
      · refine w_skip ?_
        refine w_n ?_
        refine w_seq ?_
        refine w_block ?_
        refine w_seq ?_
        obtain ⟨x, nF6, eF7, gF8, hr⟩ := hr.idx
        refine A_region ?_
        refine w_n ?_
        refine A_ops ?_
        refine A_upto 2 ?_
        obtain ⟨r2, eF9, hr⟩ := hr.bind
        refine A_call (out := ?o_eF9) (hp := ?p_eF9) ?c_eF9 ?d_eF9 ?_
        case c_eF9 => exact ranges_put_runs out1 x eF9
        case d_eF9 => rfl
        refine A_ops_end ?_
        refine (w_bn (w_n ?_))
        refine A_region ?_
        exact (w_k ⟨(r2, (IntKind.i64.wrap (v + (1 : Int)))), hr, (A_cut hwf)⟩)
      · refine w_exit ?_
        exact (w_te (w_te (w_bx (w_k ⟨out1, (hr).map, (A_cut hwf)⟩))))
end Go.Val

/- part IW84 -/
/- (*scansion/lex.reader).set runs as it is read off. -/
namespace Go.Val
set_option linter.unusedVariables false
set_option linter.unusedSimpArgs false
set_option maxRecDepth 20000
open Go.Proofs
theorem lex_reader_set_runs (r : Tlex_reader) (l0 : Nat) {h : Heap} (ha0 : h.at_ l0 = some (.cells [.val (.sl (List.map eUnit r.units)), .val (.int .i64 r.place), .val (.int .i64 r.whole), .val (.int .i64 r.fault)])) {a : (List TRange × Tlex_reader)} (e : lex_reader_set r = some a) :
    Runs CT 84 [.cv (.val (.ptr (some (l0, 0))))] h fun o h' => o = [.cv (.val (.sl (List.map eRange a.1)))] ∧ h' = (h.upd l0 (.cells [.val (.sl (List.map eUnit a.2.units)), .val (.int .i64 a.2.place), .val (.int .i64 a.2.whole), .val (.int .i64 a.2.fault)])) := by
  refine Runs.start Try.f84 _ Try.func84 rfl (by rw [Try.ntmps84]; simp) (by rfl) (by rfl) (fun hwf hu => ?_)
  have hl0 := (hwf _ _ ha0).1
  have kl0 := locF hl0
  obtain ⟨D, hD, hr⟩ : ∃ D : (List TRange × Tlex_reader) → Prop, (∀ z, D z → z = a) ∧ Holds (lex_reader_set r) D := ⟨fun z => z = a, fun _ h => h, Holds.intro e rfl⟩
  dsimp only [lex_reader_set] at hr
  change wpCode _ _ _ _ _ ⟨[(0, .cv (.val (.ptr (some (l0, 0)))))], h.on []⟩
  refine w_seq ?_
  refine w_region rfl (by simp (disch := (apply Apart.mk; decide)) only [go_sem, Nat.reduceAdd, Nat.reduceLT, Nat.reduceMul, Nat.reduceLeDiff, Int.reduceToNat, Int.reduceLT, Int.reduceLE, ha0, on_atB hl0, lt_add hl0, lt_at hl0, on_updB hl0, on_atU hl0, on_updU hl0, upd_same ha0]; rfl) ?_
  refine w_n ?_
  refine w_seq ?_
  refine w_region rfl (by simp (disch := (apply Apart.mk; decide)) only [go_sem, Nat.reduceAdd, Nat.reduceLT, Nat.reduceMul, Nat.reduceLeDiff, Int.reduceToNat, Int.reduceLT, Int.reduceLE, ha0, on_atB hl0, lt_add hl0, lt_at hl0, on_updB hl0, on_atU hl0, on_updU hl0, upd_same ha0]; rfl) ?_
  refine w_n ?_
  refine w_seq ?_
  refine w_K (D := D) (fun xX : (List TRange × List TUnit × Int × Int × Int) => ⟨[(0, .cv (.val (.ptr (some (l0, 0))))), (3, .cv (.row 80 (List.map eRange xX.1)))], (h.upd l0 (.cells [.val (.sl (List.map eUnit xX.2.1)), .val (.int .i64 xX.2.2.1), .val (.int .i64 xX.2.2.2.1), .val (.int .i64 xX.2.2.2.2)])).on []⟩) (fun xX : (List TRange × List TUnit × Int × Int × Int) => lex_reader_set.k1 xX.1 xX.2.1 xX.2.2.1 xX.2.2.2.1 xX.2.2.2.2) (fun xX s' hr ht => ?_) ?_
  · obtain ⟨l, units, place, whole, fault⟩ := xX
    dsimp only [lex_reader_set.k1] at hr ht
    refine (w_nT ht ?_)
    refine w_seq ?_
    refine w_region rfl (by simp (disch := (apply Apart.mk; decide)) only [go_sem, Nat.reduceAdd, Nat.reduceLT, Nat.reduceMul, Nat.reduceLeDiff, Int.reduceToNat, Int.reduceLT, Int.reduceLE, ha0, on_atB hl0, lt_add hl0, lt_at hl0, on_updB hl0, on_atU hl0, on_updU hl0, upd_same ha0]; rfl) ?_
    refine w_n ?_
    refine w_seq ?_
    refine A_ops ?_
    refine w_upto 1 rfl (by simp (disch := (apply Apart.mk; decide)) only [go_sem, Nat.reduceAdd, Nat.reduceLT, Nat.reduceMul, Nat.reduceLeDiff, Int.reduceToNat, Int.reduceLT, Int.reduceLE, ha0, on_atB hl0, lt_add hl0, lt_at hl0, on_updB hl0, on_atU hl0, on_updU hl0, upd_same ha0]; rfl) ?_
    obtain ⟨r1, eF1, hr⟩ := hr.bind
    refine w_call' (out := ?o_eF1) (hp := ?p_eF1) rfl (by simp (disch := (apply Apart.mk; decide)) only [go_sem, Nat.reduceAdd, Nat.reduceLT, Nat.reduceMul, Nat.reduceLeDiff, Int.reduceToNat, Int.reduceLT, Int.reduceLE, ha0, on_atB hl0, lt_add hl0, lt_at hl0, on_updB hl0, on_atU hl0, on_updU hl0, upd_same ha0, Option.getD_some]; rfl) (by simp (disch := (apply Apart.mk; decide)) only [go_sem, Nat.reduceAdd, Nat.reduceLT, Nat.reduceMul, Nat.reduceLeDiff, Int.reduceToNat, Int.reduceLT, Int.reduceLE, ha0, on_atB hl0, lt_add hl0, lt_at hl0, on_updB hl0, on_atU hl0, on_updU hl0, upd_same ha0, Option.getD_some]; rfl) (by simp (disch := (apply Apart.mk; decide)) only [go_sem, Nat.reduceAdd, Nat.reduceLT, Nat.reduceMul, Nat.reduceLeDiff, Int.reduceToNat, Int.reduceLT, Int.reduceLE, ha0, on_atB hl0, lt_add hl0, lt_at hl0, on_updB hl0, on_atU hl0, on_updU hl0, upd_same ha0, Option.getD_some]; rfl) ?c_eF1 ?d_eF1 ?_
    case c_eF1 => exact ranges_Make_runs l eF1
    case d_eF1 => rfl
    refine w_ops_end (by simp (disch := (apply Apart.mk; decide)) only [go_sem, Nat.reduceAdd, Nat.reduceLT, Nat.reduceMul, Nat.reduceLeDiff, Int.reduceToNat, Int.reduceLT, Int.reduceLE, ha0, on_atB hl0, lt_add hl0, lt_at hl0, on_updB hl0, on_atU hl0, on_updU hl0, upd_same ha0]; rfl) ?_
    refine w_n ?_
    refine w_seq ?_
    refine w_region rfl (by simp (disch := (apply Apart.mk; decide)) only [go_sem, Nat.reduceAdd, Nat.reduceLT, Nat.reduceMul, Nat.reduceLeDiff, Int.reduceToNat, Int.reduceLT, Int.reduceLE, ha0, on_atB hl0, lt_add hl0, lt_at hl0, on_updB hl0, on_atU hl0, on_updU hl0, upd_same ha0]; rfl) ?_
    refine w_n ?_
    refine w_ret ?_
    obtain rfl := hD _ hr
    exact (w_endR (To.cut (os' := []) (sl := [(2, .cv (.val (.sl (List.map eRange r1.1))))]) (h := (h.upd l0 (.cells [.val (.sl (List.map eUnit units)), .val (.int .i64 (IntKind.i64.wrap (place + (1 : Int)))), .val (.int .i64 whole), .val (.int .i64 fault)]))) (WF.upd hwf hl0 (by simp (disch := (apply Apart.mk; decide)) only [go_sem, Nat.reduceAdd, Nat.reduceLT, Nat.reduceMul, Nat.reduceLeDiff, Int.reduceToNat, Int.reduceLT, Int.reduceLE, ha0, on_atB hl0, lt_add hl0, lt_at hl0, on_updB hl0, on_atU hl0, on_updU hl0, upd_same ha0])) (Nat.le_refl _) (by first | rfl | (simp (disch := (apply Apart.mk; decide)) only [go_sem, Nat.reduceAdd, Nat.reduceLT, Nat.reduceMul, Nat.reduceLeDiff, Int.reduceToNat, Int.reduceLT, Int.reduceLE, ha0, on_atB hl0, lt_add hl0, lt_at hl0, on_updB hl0, on_atU hl0, on_updU hl0, upd_same ha0]; rfl)) (by simp (disch := (apply Apart.mk; decide)) only [go_sem, Nat.reduceAdd, Nat.reduceLT, Nat.reduceMul, Nat.reduceLeDiff, Int.reduceToNat, Int.reduceLT, Int.reduceLE, ha0, on_atB hl0, lt_add hl0, lt_at hl0, on_updB hl0, on_atU hl0, on_updU hl0, upd_same ha0])) (by simp (disch := (apply Apart.mk; decide)) only [go_sem, Nat.reduceAdd, Nat.reduceLT, Nat.reduceMul, Nat.reduceLeDiff, Int.reduceToNat, Int.reduceLT, Int.reduceLE, ha0, on_atB hl0, lt_add hl0, lt_at hl0, on_updB hl0, on_atU hl0, on_updU hl0, upd_same ha0, Try.results84, results_data CT_gives84, resCell, resVal.eq_2, loadOp_sv]) ⟨rfl, on_nil (h := (h.upd l0 (.cells [.val (.sl (List.map eUnit units)), .val (.int .i64 (IntKind.i64.wrap (place + (1 : Int)))), .val (.int .i64 whole), .val (.int .i64 fault)]))) (WF.upd hwf hl0 (by simp (disch := (apply Apart.mk; decide)) only [go_sem, Nat.reduceAdd, Nat.reduceLT, Nat.reduceMul, Nat.reduceLeDiff, Int.reduceToNat, Int.reduceLT, Int.reduceLE, ha0, on_atB hl0, lt_add hl0, lt_at hl0, on_updB hl0, on_atU hl0, on_updU hl0, upd_same ha0]))⟩)
  · refine w_block ?_
    refine w_Loop (fun xX : (List TRange × List TUnit × Int × Int × Int) => ⟨[(0, .cv (.val (.ptr (some (l0, 0))))), (3, .cv (.row 80 (List.map eRange xX.1)))], (h.upd l0 (.cells [.val (.sl (List.map eUnit xX.2.1)), .val (.int .i64 xX.2.2.1), .val (.int .i64 xX.2.2.2.1), .val (.int .i64 xX.2.2.2.2)])).on []⟩) hr (To.cut (h := (h.upd l0 (.cells [.val (.sl (List.map eUnit r.units)), .val (.int .i64 r.place), .val (.int .i64 r.whole), .val (.int .i64 r.fault)]))) (WF.upd hwf hl0 (by simp (disch := (apply Apart.mk; decide)) only [go_sem, Nat.reduceAdd, Nat.reduceLT, Nat.reduceMul, Nat.reduceLeDiff, Int.reduceToNat, Int.reduceLT, Int.reduceLE, ha0, on_atB hl0, lt_add hl0, lt_at hl0, on_updB hl0, on_atU hl0, on_updU hl0, upd_same ha0])) (Nat.le_refl _) (by first | rfl | (simp (disch := (apply Apart.mk; decide)) only [go_sem, Nat.reduceAdd, Nat.reduceLT, Nat.reduceMul, Nat.reduceLeDiff, Int.reduceToNat, Int.reduceLT, Int.reduceLE, ha0, on_atB hl0, lt_add hl0, lt_at hl0, on_updB hl0, on_atU hl0, on_updU hl0, upd_same ha0]; rfl)) (by simp (disch := (apply Apart.mk; decide)) only [go_sem, Nat.reduceAdd, Nat.reduceLT, Nat.reduceMul, Nat.reduceLeDiff, Int.reduceToNat, Int.reduceLT, Int.reduceLE, ha0, on_atB hl0, lt_add hl0, lt_at hl0, on_updB hl0, on_atU hl0, on_updU hl0, upd_same ha0])) (fun W1 xX hr => ?_)
    obtain ⟨l1, units1, place1, whole1, fault1⟩ := xX
    dsimp only [lex_reader_set.b1] at hr
    refine w_seq ?_
    refine w_seq ?_
    refine A_ops ?_
    refine w_upto 1 rfl (by simp (disch := (apply Apart.mk; decide)) only [go_sem, Nat.reduceAdd, Nat.reduceLT, Nat.reduceMul, Nat.reduceLeDiff, Int.reduceToNat, Int.reduceLT, Int.reduceLE, ha0, on_atB hl0, lt_add hl0, lt_at hl0, on_updB hl0, on_atU hl0, on_updU hl0, upd_same ha0]; rfl) ?_
    obtain ⟨r2, eF2, hr⟩ := hr.bind
    refine w_call' (out := ?o_eF2) (hp := ?p_eF2) rfl (by simp (disch := (apply Apart.mk; decide)) only [go_sem, Nat.reduceAdd, Nat.reduceLT, Nat.reduceMul, Nat.reduceLeDiff, Int.reduceToNat, Int.reduceLT, Int.reduceLE, ha0, on_atB hl0, lt_add hl0, lt_at hl0, on_updB hl0, on_atU hl0, on_updU hl0, upd_same ha0, Option.getD_some]; rfl) (by simp (disch := (apply Apart.mk; decide)) only [go_sem, Nat.reduceAdd, Nat.reduceLT, Nat.reduceMul, Nat.reduceLeDiff, Int.reduceToNat, Int.reduceLT, Int.reduceLE, ha0, on_atB hl0, lt_add hl0, lt_at hl0, on_updB hl0, on_atU hl0, on_updU hl0, upd_same ha0, Option.getD_some]; rfl) (by simp (disch := (apply Apart.mk; decide)) only [go_sem, Nat.reduceAdd, Nat.reduceLT, Nat.reduceMul, Nat.reduceLeDiff, Int.reduceToNat, Int.reduceLT, Int.reduceLE, ha0, on_atB hl0, lt_add hl0, lt_at hl0, on_updB hl0, on_atU hl0, on_updU hl0, upd_same ha0, Option.getD_some]; rfl) ?c_eF2 ?d_eF2 ?_
    case c_eF2 => (refine lex_reader_now_runs (Tlex_reader.mk units1 place1 whole1 fault1) (l0) ?_ eF2; (simp (disch := (apply Apart.mk; decide)) only [go_sem, Nat.reduceAdd, Nat.reduceLT, Nat.reduceMul, Nat.reduceLeDiff, Int.reduceToNat, Int.reduceLT, Int.reduceLE, ha0, on_atB hl0, lt_add hl0, lt_at hl0, on_updB hl0, on_atU hl0, on_updU hl0, upd_same ha0]))
    case d_eF2 => rfl
    refine w_ops_end (by simp (disch := (apply Apart.mk; decide)) only [go_sem, Nat.reduceAdd, Nat.reduceLT, Nat.reduceMul, Nat.reduceLeDiff, Int.reduceToNat, Int.reduceLT, Int.reduceLE, ha0, on_atB hl0, lt_add hl0, lt_at hl0, on_updB hl0, on_atU hl0, on_updU hl0, upd_same ha0]; rfl) ?_
    refine w_n ?_
    refine w_condH (by simp (disch := (apply Apart.mk; decide)) only [go_sem, Nat.reduceAdd, Nat.reduceLT, Nat.reduceMul, Nat.reduceLeDiff, Int.reduceToNat, Int.reduceLT, Int.reduceLE, ha0, on_atB hl0, lt_add hl0, lt_at hl0, on_updB hl0, on_atU hl0, on_updU hl0, upd_same ha0]) hr (fun cF3 hr => ?_) (fun cF3 hr => ?_)
    · refine w_skip ?_
      refine w_n ?_
      refine w_block ?_
      refine w_seq ?_
      refine w_region rfl (by simp (disch := (apply Apart.mk; decide)) only [go_sem, Nat.reduceAdd, Nat.reduceLT, Nat.reduceMul, Nat.reduceLeDiff, Int.reduceToNat, Int.reduceLT, Int.reduceLE, ha0, on_atB hl0, lt_add hl0, lt_at hl0, on_updB hl0, on_atU hl0, on_updU hl0, upd_same ha0, cF3]; rfl) ?_
      refine w_n ?_
      refine w_seq ?_
      refine A_ops ?_
      refine w_upto 1 rfl (by simp (disch := (apply Apart.mk; decide)) only [go_sem, Nat.reduceAdd, Nat.reduceLT, Nat.reduceMul, Nat.reduceLeDiff, Int.reduceToNat, Int.reduceLT, Int.reduceLE, ha0, on_atB hl0, lt_add hl0, lt_at hl0, on_updB hl0, on_atU hl0, on_updU hl0, upd_same ha0]; rfl) ?_
      obtain ⟨r3, eF4, hr⟩ := hr.bind
      refine w_call' (out := ?o_eF4) (hp := ?p_eF4) rfl (by simp (disch := (apply Apart.mk; decide)) only [go_sem, Nat.reduceAdd, Nat.reduceLT, Nat.reduceMul, Nat.reduceLeDiff, Int.reduceToNat, Int.reduceLT, Int.reduceLE, ha0, on_atB hl0, lt_add hl0, lt_at hl0, on_updB hl0, on_atU hl0, on_updU hl0, upd_same ha0, Option.getD_some]; rfl) (by simp (disch := (apply Apart.mk; decide)) only [go_sem, Nat.reduceAdd, Nat.reduceLT, Nat.reduceMul, Nat.reduceLeDiff, Int.reduceToNat, Int.reduceLT, Int.reduceLE, ha0, on_atB hl0, lt_add hl0, lt_at hl0, on_updB hl0, on_atU hl0, on_updU hl0, upd_same ha0, Option.getD_some]; rfl) (by simp (disch := (apply Apart.mk; decide)) only [go_sem, Nat.reduceAdd, Nat.reduceLT, Nat.reduceMul, Nat.reduceLeDiff, Int.reduceToNat, Int.reduceLT, Int.reduceLE, ha0, on_atB hl0, lt_add hl0, lt_at hl0, on_updB hl0, on_atU hl0, on_updU hl0, upd_same ha0, Option.getD_some]; rfl) ?c_eF4 ?d_eF4 ?_
      case c_eF4 => (refine lex_reader_letter_runs (Tlex_reader.mk units1 place1 whole1 fault1) (l0) ?_ eF4; (simp (disch := (apply Apart.mk; decide)) only [go_sem, Nat.reduceAdd, Nat.reduceLT, Nat.reduceMul, Nat.reduceLeDiff, Int.reduceToNat, Int.reduceLT, Int.reduceLE, ha0, on_atB hl0, lt_add hl0, lt_at hl0, on_updB hl0, on_atU hl0, on_updU hl0, upd_same ha0]))
      case d_eF4 => rfl
      refine w_ops_end (by simp (disch := (apply Apart.mk; decide)) only [go_sem, Nat.reduceAdd, Nat.reduceLT, Nat.reduceMul, Nat.reduceLeDiff, Int.reduceToNat, Int.reduceLT, Int.reduceLE, ha0, on_atB hl0, lt_add hl0, lt_at hl0, on_updB hl0, on_atU hl0, on_updU hl0, upd_same ha0]; rfl) ?_
      refine w_n ?_
      refine w_seq ?_
      refine w_region rfl (by simp (disch := (apply Apart.mk; decide)) only [go_sem, Nat.reduceAdd, Nat.reduceLT, Nat.reduceMul, Nat.reduceLeDiff, Int.reduceToNat, Int.reduceLT, Int.reduceLE, ha0, on_atB hl0, lt_add hl0, lt_at hl0, on_updB hl0, on_atU hl0, on_updU hl0, upd_same ha0, cF3]; rfl) ?_
      refine w_n ?_
      refine w_seq ?_
      obtain ⟨v, vF7, hr⟩ := hr.bind
      refine w_joinR (sj := ⟨[(0, .cv (.val (.ptr (some (l0, 0))))), (3, .cv (.row 80 (List.map eRange l1))), (4, .cv (.val (.int .i64 place1))), (5, .cv (.val (.ptr (some (h.n + 0, 0))))), (30, .cv (.val (.bool v)))], (h.upd l0 (.cells [.val (.sl (List.map eUnit r3.2.units)), .val (.int .i64 r3.2.place), .val (.int .i64 r3.2.whole), .val (.int .i64 r3.2.fault)])).on [some (.cells [.val (.int .i64 r3.1), .val (.int .i64 r3.1)])]⟩) (A_ops ?_) ?_
      · have hr := Holds.intro (D := fun z => z = v) vF7 rfl
        refine w_upto 1 rfl (by simp (disch := (apply Apart.mk; decide)) only [go_sem, Nat.reduceAdd, Nat.reduceLT, Nat.reduceMul, Nat.reduceLeDiff, Int.reduceToNat, Int.reduceLT, Int.reduceLE, ha0, on_atB hl0, lt_add hl0, lt_at hl0, on_updB hl0, on_atU hl0, on_updU hl0, upd_same ha0]; rfl) ?_
        obtain ⟨r4, eF5, hr⟩ := hr.bind
        refine w_call' (out := ?o_eF5) (hp := ?p_eF5) rfl (by simp (disch := (apply Apart.mk; decide)) only [go_sem, Nat.reduceAdd, Nat.reduceLT, Nat.reduceMul, Nat.reduceLeDiff, Int.reduceToNat, Int.reduceLT, Int.reduceLE, ha0, on_atB hl0, lt_add hl0, lt_at hl0, on_updB hl0, on_atU hl0, on_updU hl0, upd_same ha0, Option.getD_some]; rfl) (by simp (disch := (apply Apart.mk; decide)) only [go_sem, Nat.reduceAdd, Nat.reduceLT, Nat.reduceMul, Nat.reduceLeDiff, Int.reduceToNat, Int.reduceLT, Int.reduceLE, ha0, on_atB hl0, lt_add hl0, lt_at hl0, on_updB hl0, on_atU hl0, on_updU hl0, upd_same ha0, Option.getD_some]; rfl) (by simp (disch := (apply Apart.mk; decide)) only [go_sem, Nat.reduceAdd, Nat.reduceLT, Nat.reduceMul, Nat.reduceLeDiff, Int.reduceToNat, Int.reduceLT, Int.reduceLE, ha0, on_atB hl0, lt_add hl0, lt_at hl0, on_updB hl0, on_atU hl0, on_updU hl0, upd_same ha0, Option.getD_some]; rfl) ?c_eF5 ?d_eF5 ?_
        case c_eF5 => (refine lex_reader_now_runs r3.2 (l0) ?_ eF5; (simp (disch := (apply Apart.mk; decide)) only [go_sem, Nat.reduceAdd, Nat.reduceLT, Nat.reduceMul, Nat.reduceLeDiff, Int.reduceToNat, Int.reduceLT, Int.reduceLE, ha0, on_atB hl0, lt_add hl0, lt_at hl0, on_updB hl0, on_atU hl0, on_updU hl0, upd_same ha0]))
        case d_eF5 => rfl
        refine w_upto 2 rfl (by simp (disch := (apply Apart.mk; decide)) only [go_sem, Nat.reduceAdd, Nat.reduceLT, Nat.reduceMul, Nat.reduceLeDiff, Int.reduceToNat, Int.reduceLT, Int.reduceLE, ha0, on_atB hl0, lt_add hl0, lt_at hl0, on_updB hl0, on_atU hl0, on_updU hl0, upd_same ha0]; rfl) ?_
        rcases hr.ite with ⟨cF6, hr⟩ | ⟨cF6, hr⟩
        · refine w_ops_end (by simp (disch := (apply Apart.mk; decide)) only [go_sem, Nat.reduceAdd, Nat.reduceLT, Nat.reduceMul, Nat.reduceLeDiff, Int.reduceToNat, Int.reduceLT, Int.reduceLE, ha0, on_atB hl0, lt_add hl0, lt_at hl0, on_updB hl0, on_atU hl0, on_updU hl0, upd_same ha0, cF6]; rfl) ?_
          obtain rfl : _ = v := hr
          exact w_k (To.cut (h := (h.upd l0 (.cells [.val (.sl (List.map eUnit r3.2.units)), .val (.int .i64 r3.2.place), .val (.int .i64 r3.2.whole), .val (.int .i64 r3.2.fault)]))) (WF.upd hwf hl0 (by simp (disch := (apply Apart.mk; decide)) only [go_sem, Nat.reduceAdd, Nat.reduceLT, Nat.reduceMul, Nat.reduceLeDiff, Int.reduceToNat, Int.reduceLT, Int.reduceLE, ha0, on_atB hl0, lt_add hl0, lt_at hl0, on_updB hl0, on_atU hl0, on_updU hl0, upd_same ha0])) (Nat.le_refl _) (by first | rfl | (simp (disch := (apply Apart.mk; decide)) only [go_sem, Nat.reduceAdd, Nat.reduceLT, Nat.reduceMul, Nat.reduceLeDiff, Int.reduceToNat, Int.reduceLT, Int.reduceLE, ha0, on_atB hl0, lt_add hl0, lt_at hl0, on_updB hl0, on_atU hl0, on_updU hl0, upd_same ha0, cF3, cF6]; rfl)) (by simp (disch := (apply Apart.mk; decide)) only [go_sem, Nat.reduceAdd, Nat.reduceLT, Nat.reduceMul, Nat.reduceLeDiff, Int.reduceToNat, Int.reduceLT, Int.reduceLE, ha0, on_atB hl0, lt_add hl0, lt_at hl0, on_updB hl0, on_atU hl0, on_updU hl0, upd_same ha0, cF3, cF6]))
        · refine w_ops_end (by simp (disch := (apply Apart.mk; decide)) only [go_sem, Nat.reduceAdd, Nat.reduceLT, Nat.reduceMul, Nat.reduceLeDiff, Int.reduceToNat, Int.reduceLT, Int.reduceLE, ha0, on_atB hl0, lt_add hl0, lt_at hl0, on_updB hl0, on_atU hl0, on_updU hl0, upd_same ha0, cF6]; rfl) ?_
          obtain rfl : _ = v := hr
          exact w_k (To.cut (h := (h.upd l0 (.cells [.val (.sl (List.map eUnit r3.2.units)), .val (.int .i64 r3.2.place), .val (.int .i64 r3.2.whole), .val (.int .i64 r3.2.fault)]))) (WF.upd hwf hl0 (by simp (disch := (apply Apart.mk; decide)) only [go_sem, Nat.reduceAdd, Nat.reduceLT, Nat.reduceMul, Nat.reduceLeDiff, Int.reduceToNat, Int.reduceLT, Int.reduceLE, ha0, on_atB hl0, lt_add hl0, lt_at hl0, on_updB hl0, on_atU hl0, on_updU hl0, upd_same ha0])) (Nat.le_refl _) (by first | rfl | (simp (disch := (apply Apart.mk; decide)) only [go_sem, Nat.reduceAdd, Nat.reduceLT, Nat.reduceMul, Nat.reduceLeDiff, Int.reduceToNat, Int.reduceLT, Int.reduceLE, ha0, on_atB hl0, lt_add hl0, lt_at hl0, on_updB hl0, on_atU hl0, on_updU hl0, upd_same ha0, cF3, cF6]; rfl)) (by simp (disch := (apply Apart.mk; decide)) only [go_sem, Nat.reduceAdd, Nat.reduceLT, Nat.reduceMul, Nat.reduceLeDiff, Int.reduceToNat, Int.reduceLT, Int.reduceLE, ha0, on_atB hl0, lt_add hl0, lt_at hl0, on_updB hl0, on_atU hl0, on_updU hl0, upd_same ha0, cF3, cF6]))
      refine w_K (D := (Aft W1 D)) (fun xX : (Int × List TUnit × Int × Int × Int) => ⟨[(0, .cv (.val (.ptr (some (l0, 0))))), (3, .cv (.row 80 (List.map eRange l1))), (4, .cv (.val (.int .i64 place1))), (5, .cv (.val (.ptr (some (h.n + 0, 0)))))], (h.upd l0 (.cells [.val (.sl (List.map eUnit xX.2.1)), .val (.int .i64 xX.2.2.1), .val (.int .i64 xX.2.2.2.1), .val (.int .i64 xX.2.2.2.2)])).on [some (.cells [.val (.int .i64 r3.1), .val (.int .i64 xX.1)])]⟩) (fun xX : (Int × List TUnit × Int × Int × Int) => lex_reader_set.k2 l1 place1 r3 xX.1 xX.2.1 xX.2.2.1 xX.2.2.2.1 xX.2.2.2.2) (fun xX s' hr ht => ?_) ?_
      · obtain ⟨High, units2, place2, whole2, fault2⟩ := xX
        dsimp only [lex_reader_set.k2] at hr ht
        refine (w_nT ht ?_)
        refine w_seq ?_
        refine w_block ?_
        refine w_seq ?_
        refine w_region rfl (by simp (disch := (apply Apart.mk; decide)) only [go_sem, Nat.reduceAdd, Nat.reduceLT, Nat.reduceMul, Nat.reduceLeDiff, Int.reduceToNat, Int.reduceLT, Int.reduceLE, ha0, on_atB hl0, lt_add hl0, lt_at hl0, on_updB hl0, on_atU hl0, on_updU hl0, upd_same ha0, cF3]; rfl) ?_
        refine w_n ?_
        refine w_condH (by simp (disch := (apply Apart.mk; decide)) only [go_sem, Nat.reduceAdd, Nat.reduceLT, Nat.reduceMul, Nat.reduceLeDiff, Int.reduceToNat, Int.reduceLT, Int.reduceLE, ha0, on_atB hl0, lt_add hl0, lt_at hl0, on_updB hl0, on_atU hl0, on_updU hl0, upd_same ha0, cF3]) hr (fun cF8 hr => ?_) (fun cF8 hr => ?_)
        · refine w_seq ?_
          refine w_region rfl (by simp (disch := (apply Apart.mk; decide)) only [go_sem, Nat.reduceAdd, Nat.reduceLT, Nat.reduceMul, Nat.reduceLeDiff, Int.reduceToNat, Int.reduceLT, Int.reduceLE, ha0, on_atB hl0, lt_add hl0, lt_at hl0, on_updB hl0, on_atU hl0, on_updU hl0, upd_same ha0, cF3, cF8]; rfl) ?_
          refine w_n ?_
          refine w_ret ?_
          obtain rfl := hD _ hr
          exact (w_br (w_tr (w_br (w_tr (w_br (w_tr (w_tr (w_endR (To.cut (os' := []) (sl := [(2, .cv (.val (.sl (List.map eRange ([] : List TRange)))))]) (h := (h.upd l0 (.cells [.val (.sl (List.map eUnit units2)), .val (.int .i64 place2), .val (.int .i64 whole2), .val (.int .i64 fault2)]))) (WF.upd hwf hl0 (by simp (disch := (apply Apart.mk; decide)) only [go_sem, Nat.reduceAdd, Nat.reduceLT, Nat.reduceMul, Nat.reduceLeDiff, Int.reduceToNat, Int.reduceLT, Int.reduceLE, ha0, on_atB hl0, lt_add hl0, lt_at hl0, on_updB hl0, on_atU hl0, on_updU hl0, upd_same ha0])) (Nat.le_refl _) (by first | rfl | (simp (disch := (apply Apart.mk; decide)) only [go_sem, Nat.reduceAdd, Nat.reduceLT, Nat.reduceMul, Nat.reduceLeDiff, Int.reduceToNat, Int.reduceLT, Int.reduceLE, ha0, on_atB hl0, lt_add hl0, lt_at hl0, on_updB hl0, on_atU hl0, on_updU hl0, upd_same ha0, cF3, cF8]; rfl)) (by simp (disch := (apply Apart.mk; decide)) only [go_sem, Nat.reduceAdd, Nat.reduceLT, Nat.reduceMul, Nat.reduceLeDiff, Int.reduceToNat, Int.reduceLT, Int.reduceLE, ha0, on_atB hl0, lt_add hl0, lt_at hl0, on_updB hl0, on_atU hl0, on_updU hl0, upd_same ha0, cF3, cF8])) (by simp (disch := (apply Apart.mk; decide)) only [go_sem, Nat.reduceAdd, Nat.reduceLT, Nat.reduceMul, Nat.reduceLeDiff, Int.reduceToNat, Int.reduceLT, Int.reduceLE, ha0, on_atB hl0, lt_add hl0, lt_at hl0, on_updB hl0, on_atU hl0, on_updU hl0, upd_same ha0, Try.results84, results_data CT_gives84, resCell, resVal.eq_2, loadOp_sv, cF3, cF8]) ⟨rfl, on_nil (h := (h.upd l0 (.cells [.val (.sl (List.map eUnit units2)), .val (.int .i64 place2), .val (.int .i64 whole2), .val (.int .i64 fault2)]))) (WF.upd hwf hl0 (by simp (disch := (apply Apart.mk; decide)) only [go_sem, Nat.reduceAdd, Nat.reduceLT, Nat.reduceMul, Nat.reduceLeDiff, Int.reduceToNat, Int.reduceLT, Int.reduceLE, ha0, on_atB hl0, lt_add hl0, lt_at hl0, on_updB hl0, on_atU hl0, on_updU hl0, upd_same ha0]))⟩))))))))
        · refine w_joinR (sj := ⟨[(0, .cv (.val (.ptr (some (l0, 0))))), (3, .cv (.row 80 (List.map eRange l1))), (4, .cv (.val (.int .i64 place1))), (5, .cv (.val (.ptr (some (h.n + 0, 0))))), (47, .cv (.val (.bool ((decide (r3.1 > High)) || (decide (High > (1114111 : Int)))))))], (h.upd l0 (.cells [.val (.sl (List.map eUnit units2)), .val (.int .i64 place2), .val (.int .i64 whole2), .val (.int .i64 fault2)])).on [some (.cells [.val (.int .i64 r3.1), .val (.int .i64 High)])]⟩) (A_ops ?_) ?_
          · refine w_upto 6 rfl (by simp (disch := (apply Apart.mk; decide)) only [go_sem, Nat.reduceAdd, Nat.reduceLT, Nat.reduceMul, Nat.reduceLeDiff, Int.reduceToNat, Int.reduceLT, Int.reduceLE, ha0, on_atB hl0, lt_add hl0, lt_at hl0, on_updB hl0, on_atU hl0, on_updU hl0, upd_same ha0]; rfl) ?_
            rcases Bool.eq_false_or_eq_true (decide (r3.1 > High)) with cF9 | cF9
            · refine w_ops_end (by simp (disch := (apply Apart.mk; decide)) only [go_sem, Nat.reduceAdd, Nat.reduceLT, Nat.reduceMul, Nat.reduceLeDiff, Int.reduceToNat, Int.reduceLT, Int.reduceLE, ha0, on_atB hl0, lt_add hl0, lt_at hl0, on_updB hl0, on_atU hl0, on_updU hl0, upd_same ha0, cF9]; rfl) ?_
              exact w_k (To.cut (h := (h.upd l0 (.cells [.val (.sl (List.map eUnit units2)), .val (.int .i64 place2), .val (.int .i64 whole2), .val (.int .i64 fault2)]))) (WF.upd hwf hl0 (by simp (disch := (apply Apart.mk; decide)) only [go_sem, Nat.reduceAdd, Nat.reduceLT, Nat.reduceMul, Nat.reduceLeDiff, Int.reduceToNat, Int.reduceLT, Int.reduceLE, ha0, on_atB hl0, lt_add hl0, lt_at hl0, on_updB hl0, on_atU hl0, on_updU hl0, upd_same ha0])) (Nat.le_refl _) (by first | rfl | (simp (disch := (apply Apart.mk; decide)) only [go_sem, Nat.reduceAdd, Nat.reduceLT, Nat.reduceMul, Nat.reduceLeDiff, Int.reduceToNat, Int.reduceLT, Int.reduceLE, ha0, on_atB hl0, lt_add hl0, lt_at hl0, on_updB hl0, on_atU hl0, on_updU hl0, upd_same ha0, cF3, cF8, cF9]; rfl)) (by simp (disch := (apply Apart.mk; decide)) only [go_sem, Nat.reduceAdd, Nat.reduceLT, Nat.reduceMul, Nat.reduceLeDiff, Int.reduceToNat, Int.reduceLT, Int.reduceLE, ha0, on_atB hl0, lt_add hl0, lt_at hl0, on_updB hl0, on_atU hl0, on_updU hl0, upd_same ha0, cF3, cF8, cF9]))
            · refine w_ops_end (by simp (disch := (apply Apart.mk; decide)) only [go_sem, Nat.reduceAdd, Nat.reduceLT, Nat.reduceMul, Nat.reduceLeDiff, Int.reduceToNat, Int.reduceLT, Int.reduceLE, ha0, on_atB hl0, lt_add hl0, lt_at hl0, on_updB hl0, on_atU hl0, on_updU hl0, upd_same ha0, cF9]; rfl) ?_
              exact w_k (To.cut (h := (h.upd l0 (.cells [.val (.sl (List.map eUnit units2)), .val (.int .i64 place2), .val (.int .i64 whole2), .val (.int .i64 fault2)]))) (WF.upd hwf hl0 (by simp (disch := (apply Apart.mk; decide)) only [go_sem, Nat.reduceAdd, Nat.reduceLT, Nat.reduceMul, Nat.reduceLeDiff, Int.reduceToNat, Int.reduceLT, Int.reduceLE, ha0, on_atB hl0, lt_add hl0, lt_at hl0, on_updB hl0, on_atU hl0, on_updU hl0, upd_same ha0])) (Nat.le_refl _) (by first | rfl | (simp (disch := (apply Apart.mk; decide)) only [go_sem, Nat.reduceAdd, Nat.reduceLT, Nat.reduceMul, Nat.reduceLeDiff, Int.reduceToNat, Int.reduceLT, Int.reduceLE, ha0, on_atB hl0, lt_add hl0, lt_at hl0, on_updB hl0, on_atU hl0, on_updU hl0, upd_same ha0, cF3, cF8, cF9]; rfl)) (by simp (disch := (apply Apart.mk; decide)) only [go_sem, Nat.reduceAdd, Nat.reduceLT, Nat.reduceMul, Nat.reduceLeDiff, Int.reduceToNat, Int.reduceLT, Int.reduceLE, ha0, on_atB hl0, lt_add hl0, lt_at hl0, on_updB hl0, on_atU hl0, on_updU hl0, upd_same ha0, cF3, cF8, cF9]))
          refine w_condH (by simp (disch := (apply Apart.mk; decide)) only [go_sem, Nat.reduceAdd, Nat.reduceLT, Nat.reduceMul, Nat.reduceLeDiff, Int.reduceToNat, Int.reduceLT, Int.reduceLE, ha0, on_atB hl0, lt_add hl0, lt_at hl0, on_updB hl0, on_atU hl0, on_updU hl0, upd_same ha0, cF3, cF8]) hr (fun cF10 hr => ?_) (fun cF10 hr => ?_)
          · refine w_seq ?_
            refine w_region rfl (by simp (disch := (apply Apart.mk; decide)) only [go_sem, Nat.reduceAdd, Nat.reduceLT, Nat.reduceMul, Nat.reduceLeDiff, Int.reduceToNat, Int.reduceLT, Int.reduceLE, ha0, on_atB hl0, lt_add hl0, lt_at hl0, on_updB hl0, on_atU hl0, on_updU hl0, upd_same ha0, cF3, cF8, cF10]; rfl) ?_
            refine w_n ?_
            refine w_seq ?_
            refine w_region rfl (by simp (disch := (apply Apart.mk; decide)) only [go_sem, Nat.reduceAdd, Nat.reduceLT, Nat.reduceMul, Nat.reduceLeDiff, Int.reduceToNat, Int.reduceLT, Int.reduceLE, ha0, on_atB hl0, lt_add hl0, lt_at hl0, on_updB hl0, on_atU hl0, on_updU hl0, upd_same ha0, cF3, cF8, cF10]; rfl) ?_
            refine w_n ?_
            refine w_ret ?_
            obtain rfl := hD _ hr
            exact (w_br (w_tr (w_br (w_tr (w_br (w_tr (w_tr (w_endR (To.cut (os' := []) (sl := [(2, .cv (.val (.sl (List.map eRange ([] : List TRange)))))]) (h := (h.upd l0 (.cells [.val (.sl (List.map eUnit units2)), .val (.int .i64 place1), .val (.int .i64 whole2), .val (.int .i64 (1 : Int))]))) (WF.upd hwf hl0 (by simp (disch := (apply Apart.mk; decide)) only [go_sem, Nat.reduceAdd, Nat.reduceLT, Nat.reduceMul, Nat.reduceLeDiff, Int.reduceToNat, Int.reduceLT, Int.reduceLE, ha0, on_atB hl0, lt_add hl0, lt_at hl0, on_updB hl0, on_atU hl0, on_updU hl0, upd_same ha0])) (Nat.le_refl _) (by first | rfl | (simp (disch := (apply Apart.mk; decide)) only [go_sem, Nat.reduceAdd, Nat.reduceLT, Nat.reduceMul, Nat.reduceLeDiff, Int.reduceToNat, Int.reduceLT, Int.reduceLE, ha0, on_atB hl0, lt_add hl0, lt_at hl0, on_updB hl0, on_atU hl0, on_updU hl0, upd_same ha0, cF3, cF8, cF10]; rfl)) (by simp (disch := (apply Apart.mk; decide)) only [go_sem, Nat.reduceAdd, Nat.reduceLT, Nat.reduceMul, Nat.reduceLeDiff, Int.reduceToNat, Int.reduceLT, Int.reduceLE, ha0, on_atB hl0, lt_add hl0, lt_at hl0, on_updB hl0, on_atU hl0, on_updU hl0, upd_same ha0, cF3, cF8, cF10])) (by simp (disch := (apply Apart.mk; decide)) only [go_sem, Nat.reduceAdd, Nat.reduceLT, Nat.reduceMul, Nat.reduceLeDiff, Int.reduceToNat, Int.reduceLT, Int.reduceLE, ha0, on_atB hl0, lt_add hl0, lt_at hl0, on_updB hl0, on_atU hl0, on_updU hl0, upd_same ha0, Try.results84, results_data CT_gives84, resCell, resVal.eq_2, loadOp_sv, cF3, cF8, cF10]) ⟨rfl, on_nil (h := (h.upd l0 (.cells [.val (.sl (List.map eUnit units2)), .val (.int .i64 place1), .val (.int .i64 whole2), .val (.int .i64 (1 : Int))]))) (WF.upd hwf hl0 (by simp (disch := (apply Apart.mk; decide)) only [go_sem, Nat.reduceAdd, Nat.reduceLT, Nat.reduceMul, Nat.reduceLeDiff, Int.reduceToNat, Int.reduceLT, Int.reduceLE, ha0, on_atB hl0, lt_add hl0, lt_at hl0, on_updB hl0, on_atU hl0, on_updU hl0, upd_same ha0]))⟩))))))))
          · refine w_skip ?_
            refine (w_bn (w_n ?_))
            obtain ⟨nF11, hr⟩ := hr.room
            refine w_region rfl (by simp (disch := (apply Apart.mk; decide)) only [go_sem, Nat.reduceAdd, Nat.reduceLT, Nat.reduceMul, Nat.reduceLeDiff, Int.reduceToNat, Int.reduceLT, Int.reduceLE, ha0, on_atB hl0, lt_add hl0, lt_at hl0, on_updB hl0, on_atU hl0, on_updU hl0, upd_same ha0, nF11, cF3, cF8, cF10]; rfl) ?_
            exact (w_bn (w_k ⟨((l1 ++ ([(TRange.mk r3.1 High)])), units2, place2, whole2, fault2), hr, (To.cut (h := (h.upd l0 (.cells [.val (.sl (List.map eUnit units2)), .val (.int .i64 place2), .val (.int .i64 whole2), .val (.int .i64 fault2)]))) (WF.upd hwf hl0 (by simp (disch := (apply Apart.mk; decide)) only [go_sem, Nat.reduceAdd, Nat.reduceLT, Nat.reduceMul, Nat.reduceLeDiff, Int.reduceToNat, Int.reduceLT, Int.reduceLE, ha0, on_atB hl0, lt_add hl0, lt_at hl0, on_updB hl0, on_atU hl0, on_updU hl0, upd_same ha0])) (Nat.le_refl _) (by first | rfl | (simp (disch := (apply Apart.mk; decide)) only [go_sem, Nat.reduceAdd, Nat.reduceLT, Nat.reduceMul, Nat.reduceLeDiff, Int.reduceToNat, Int.reduceLT, Int.reduceLE, ha0, on_atB hl0, lt_add hl0, lt_at hl0, on_updB hl0, on_atU hl0, on_updU hl0, upd_same ha0, cF3, cF8, cF10]; rfl)) (by simp (disch := (apply Apart.mk; decide)) only [go_sem, Nat.reduceAdd, Nat.reduceLT, Nat.reduceMul, Nat.reduceLeDiff, Int.reduceToNat, Int.reduceLT, Int.reduceLE, ha0, on_atB hl0, lt_add hl0, lt_at hl0, on_updB hl0, on_atU hl0, on_updU hl0, upd_same ha0, cF3, cF8, cF10]))⟩))
      · refine w_condH (by simp (disch := (apply Apart.mk; decide)) only [go_sem, Nat.reduceAdd, Nat.reduceLT, Nat.reduceMul, Nat.reduceLeDiff, Int.reduceToNat, Int.reduceLT, Int.reduceLE, ha0, on_atB hl0, lt_add hl0, lt_at hl0, on_updB hl0, on_atU hl0, on_updU hl0, upd_same ha0, cF3]) hr (fun cF12 hr => ?_) (fun cF12 hr => ?_)
        · refine w_seq ?_
          refine w_region rfl (by simp (disch := (apply Apart.mk; decide)) only [go_sem, Nat.reduceAdd, Nat.reduceLT, Nat.reduceMul, Nat.reduceLeDiff, Int.reduceToNat, Int.reduceLT, Int.reduceLE, ha0, on_atB hl0, lt_add hl0, lt_at hl0, on_updB hl0, on_atU hl0, on_updU hl0, upd_same ha0, cF3, cF12]; rfl) ?_
          refine w_n ?_
          refine A_ops ?_
          refine w_upto 1 rfl (by simp (disch := (apply Apart.mk; decide)) only [go_sem, Nat.reduceAdd, Nat.reduceLT, Nat.reduceMul, Nat.reduceLeDiff, Int.reduceToNat, Int.reduceLT, Int.reduceLE, ha0, on_atB hl0, lt_add hl0, lt_at hl0, on_updB hl0, on_atU hl0, on_updU hl0, upd_same ha0]; rfl) ?_
          obtain ⟨r5, eF13, hr⟩ := hr.bind
          refine w_call' (out := ?o_eF13) (hp := ?p_eF13) rfl (by simp (disch := (apply Apart.mk; decide)) only [go_sem, Nat.reduceAdd, Nat.reduceLT, Nat.reduceMul, Nat.reduceLeDiff, Int.reduceToNat, Int.reduceLT, Int.reduceLE, ha0, on_atB hl0, lt_add hl0, lt_at hl0, on_updB hl0, on_atU hl0, on_updU hl0, upd_same ha0, Option.getD_some]; rfl) (by simp (disch := (apply Apart.mk; decide)) only [go_sem, Nat.reduceAdd, Nat.reduceLT, Nat.reduceMul, Nat.reduceLeDiff, Int.reduceToNat, Int.reduceLT, Int.reduceLE, ha0, on_atB hl0, lt_add hl0, lt_at hl0, on_updB hl0, on_atU hl0, on_updU hl0, upd_same ha0, Option.getD_some]; rfl) (by simp (disch := (apply Apart.mk; decide)) only [go_sem, Nat.reduceAdd, Nat.reduceLT, Nat.reduceMul, Nat.reduceLeDiff, Int.reduceToNat, Int.reduceLT, Int.reduceLE, ha0, on_atB hl0, lt_add hl0, lt_at hl0, on_updB hl0, on_atU hl0, on_updU hl0, upd_same ha0, Option.getD_some]; rfl) ?c_eF13 ?d_eF13 ?_
          case c_eF13 => (refine lex_reader_letter_runs (Tlex_reader.mk r3.2.units (IntKind.i64.wrap (r3.2.place + (1 : Int))) r3.2.whole r3.2.fault) (l0) ?_ eF13; (simp (disch := (apply Apart.mk; decide)) only [go_sem, Nat.reduceAdd, Nat.reduceLT, Nat.reduceMul, Nat.reduceLeDiff, Int.reduceToNat, Int.reduceLT, Int.reduceLE, ha0, on_atB hl0, lt_add hl0, lt_at hl0, on_updB hl0, on_atU hl0, on_updU hl0, upd_same ha0]))
          case d_eF13 => rfl
          refine w_ops_end (by simp (disch := (apply Apart.mk; decide)) only [go_sem, Nat.reduceAdd, Nat.reduceLT, Nat.reduceMul, Nat.reduceLeDiff, Int.reduceToNat, Int.reduceLT, Int.reduceLE, ha0, on_atB hl0, lt_add hl0, lt_at hl0, on_updB hl0, on_atU hl0, on_updU hl0, upd_same ha0]; rfl) ?_
          exact (w_k ⟨(r5.1, r5.2.units, r5.2.place, r5.2.whole, r5.2.fault), hr, (To.cut (h := (h.upd l0 (.cells [.val (.sl (List.map eUnit r5.2.units)), .val (.int .i64 r5.2.place), .val (.int .i64 r5.2.whole), .val (.int .i64 r5.2.fault)]))) (WF.upd hwf hl0 (by simp (disch := (apply Apart.mk; decide)) only [go_sem, Nat.reduceAdd, Nat.reduceLT, Nat.reduceMul, Nat.reduceLeDiff, Int.reduceToNat, Int.reduceLT, Int.reduceLE, ha0, on_atB hl0, lt_add hl0, lt_at hl0, on_updB hl0, on_atU hl0, on_updU hl0, upd_same ha0])) (Nat.le_refl _) (by first | rfl | (simp (disch := (apply Apart.mk; decide)) only [go_sem, Nat.reduceAdd, Nat.reduceLT, Nat.reduceMul, Nat.reduceLeDiff, Int.reduceToNat, Int.reduceLT, Int.reduceLE, ha0, on_atB hl0, lt_add hl0, lt_at hl0, on_updB hl0, on_atU hl0, on_updU hl0, upd_same ha0, cF3, cF12]; rfl)) (by simp (disch := (apply Apart.mk; decide)) only [go_sem, Nat.reduceAdd, Nat.reduceLT, Nat.reduceMul, Nat.reduceLeDiff, Int.reduceToNat, Int.reduceLT, Int.reduceLE, ha0, on_atB hl0, lt_add hl0, lt_at hl0, on_updB hl0, on_atU hl0, on_updU hl0, upd_same ha0, cF3, cF12]))⟩)
        · refine w_skip ?_
          exact (w_k ⟨(r3.1, r3.2.units, r3.2.place, r3.2.whole, r3.2.fault), hr, (To.cut (h := (h.upd l0 (.cells [.val (.sl (List.map eUnit r3.2.units)), .val (.int .i64 r3.2.place), .val (.int .i64 r3.2.whole), .val (.int .i64 r3.2.fault)]))) (WF.upd hwf hl0 (by simp (disch := (apply Apart.mk; decide)) only [go_sem, Nat.reduceAdd, Nat.reduceLT, Nat.reduceMul, Nat.reduceLeDiff, Int.reduceToNat, Int.reduceLT, Int.reduceLE, ha0, on_atB hl0, lt_add hl0, lt_at hl0, on_updB hl0, on_atU hl0, on_updU hl0, upd_same ha0])) (Nat.le_refl _) (by first | rfl | (simp (disch := (apply Apart.mk; decide)) only [go_sem, Nat.reduceAdd, Nat.reduceLT, Nat.reduceMul, Nat.reduceLeDiff, Int.reduceToNat, Int.reduceLT, Int.reduceLE, ha0, on_atB hl0, lt_add hl0, lt_at hl0, on_updB hl0, on_atU hl0, on_updU hl0, upd_same ha0, cF3, cF12]; rfl)) (by simp (disch := (apply Apart.mk; decide)) only [go_sem, Nat.reduceAdd, Nat.reduceLT, Nat.reduceMul, Nat.reduceLeDiff, Int.reduceToNat, Int.reduceLT, Int.reduceLE, ha0, on_atB hl0, lt_add hl0, lt_at hl0, on_updB hl0, on_atU hl0, on_updU hl0, upd_same ha0, cF3, cF12]))⟩)
    · refine w_exit ?_
      exact (w_te (w_te (w_bx (w_k ⟨(l1, units1, place1, whole1, fault1), (hr).map, (To.cut (h := (h.upd l0 (.cells [.val (.sl (List.map eUnit units1)), .val (.int .i64 place1), .val (.int .i64 whole1), .val (.int .i64 fault1)]))) (WF.upd hwf hl0 (by simp (disch := (apply Apart.mk; decide)) only [go_sem, Nat.reduceAdd, Nat.reduceLT, Nat.reduceMul, Nat.reduceLeDiff, Int.reduceToNat, Int.reduceLT, Int.reduceLE, ha0, on_atB hl0, lt_add hl0, lt_at hl0, on_updB hl0, on_atU hl0, on_updU hl0, upd_same ha0])) (Nat.le_refl _) (by first | rfl | (simp (disch := (apply Apart.mk; decide)) only [go_sem, Nat.reduceAdd, Nat.reduceLT, Nat.reduceMul, Nat.reduceLeDiff, Int.reduceToNat, Int.reduceLT, Int.reduceLE, ha0, on_atB hl0, lt_add hl0, lt_at hl0, on_updB hl0, on_atU hl0, on_updU hl0, upd_same ha0, cF3]; rfl)) (by simp (disch := (apply Apart.mk; decide)) only [go_sem, Nat.reduceAdd, Nat.reduceLT, Nat.reduceMul, Nat.reduceLeDiff, Int.reduceToNat, Int.reduceLT, Int.reduceLE, ha0, on_atB hl0, lt_add hl0, lt_at hl0, on_updB hl0, on_atU hl0, on_updU hl0, upd_same ha0, cF3]))⟩))))
end Go.Val

/- part IW58 -/
/- scansion/lex.goes runs as it is read off. -/
namespace Go.Val
set_option linter.unusedVariables false
set_option linter.unusedSimpArgs false
set_option maxRecDepth 20000
open Go.Proofs
theorem lex_goes_runs (r : Int) {h : Heap} {a : Bool} (e : lex_goes r = some a) :
    Runs CT 58 [.cv (.val (.int .i64 r))] h fun o h' => o = [.cv (.val (.bool a))] ∧ h' = h := by
  refine Runs.start Try.f58 _ Try.func58 rfl (by rw [Try.ntmps58]; simp) (by rfl) (by rfl) (fun hwf hu => ?_)
  obtain ⟨D, hD, hr⟩ : ∃ D : Bool → Prop, (∀ z, D z → z = a) ∧ Holds (lex_goes r) D := ⟨fun z => z = a, fun _ h => h, Holds.intro e rfl⟩
  dsimp only [lex_goes] at hr
  change wpCode _ _ _ _ _ ⟨[(0, .cv (.val (.int .i64 r)))], h.on []⟩
  refine w_seq ?_
  refine A_region ?_
  refine w_n ?_
  obtain ⟨v, vF5, hr⟩ := hr.bind
  refine w_joinR (sj := ⟨[(2, .cv (.val (.bool v)))], h.on []⟩) (A_ops ?_) ?_
  · have hr := Holds.intro (D := fun z => z = v) vF5 rfl
    refine A_upto 1 ?_
    obtain ⟨r1, eF1, hr⟩ := hr.bind
    refine A_call (out := ?o_eF1) (hp := ?p_eF1) ?c_eF1 ?d_eF1 ?_
    case c_eF1 => exact lex_lower_runs r eF1
    case d_eF1 => rfl
    refine A_upto 1 ?_
    rcases hr.ite with ⟨cF2, hr⟩ | ⟨cF2, hr⟩
    · refine A_ops_end ?_
      obtain rfl : _ = v := hr
      exact w_k (A_cut hwf)
    · refine A_upto 3 ?_
      rcases hr.ite with ⟨cF3, hr⟩ | ⟨cF3, hr⟩
      · refine A_upto 5 ?_
        rcases hr.ite with ⟨cF4, hr⟩ | ⟨cF4, hr⟩
        · refine A_ops_end ?_
          obtain rfl : _ = v := hr
          exact w_k (A_cut hwf)
        · refine A_ops_end ?_
          obtain rfl : _ = v := hr
          exact w_k (A_cut hwf)
      · refine A_ops_end ?_
        obtain rfl : _ = v := hr
        exact w_k (A_cut hwf)
  refine w_ret ?_
  obtain rfl := hD _ hr
  exact (A_endR (A_cut (os' := []) (sl := [(2, .cv (.val (.bool v)))]) hwf) ⟨rfl, on_nil hwf⟩)
end Go.Val

/- part IW45 -/
/- (*scansion/lex.reader).token runs as it is read off. -/
namespace Go.Val
set_option linter.unusedVariables false
set_option linter.unusedSimpArgs false
set_option maxRecDepth 20000
open Go.Proofs
theorem lex_reader_token_runs (r : Tlex_reader) (b : List UInt8) (l0 : Nat) {h : Heap} (ha0 : h.at_ l0 = some (.cells [.val (.sl (List.map eUnit r.units)), .val (.int .i64 r.place), .val (.int .i64 r.whole), .val (.int .i64 r.fault)])) {a : (TToken × Tlex_reader)} (e : lex_reader_token r b = some a) :
    Runs CT 45 [.cv (.val (.ptr (some (l0, 0)))), .cv (.val (.sl (List.map eU b)))] h fun o h' => o = [.cv (.val (.agg [.int .i64 a.1.Kind, .int .i64 a.1.At, .str (bs a.1.Text), .sl (List.map eRange a.1.Set)]))] ∧ h' = (h.upd l0 (.cells [.val (.sl (List.map eUnit a.2.units)), .val (.int .i64 a.2.place), .val (.int .i64 a.2.whole), .val (.int .i64 a.2.fault)])) := by
  refine Runs.start Try.f45 _ Try.func45 rfl (by rw [Try.ntmps45]; simp) (by rfl) (by rfl) (fun hwf hu => ?_)
  have hl0 := (hwf _ _ ha0).1
  have kl0 := locF hl0
  obtain ⟨D, hD, hr⟩ : ∃ D : (TToken × Tlex_reader) → Prop, (∀ z, D z → z = a) ∧ Holds (lex_reader_token r b) D := ⟨fun z => z = a, fun _ h => h, Holds.intro e rfl⟩
  dsimp only [lex_reader_token] at hr
  change wpCode _ _ _ _ _ ⟨[(0, .cv (.val (.ptr (some (l0, 0))))), (1, .cv (.val (.sl (List.map eU b))))], h.on []⟩
  refine w_seq ?_
  refine w_region rfl (by simp (disch := (apply Apart.mk; decide)) only [go_sem, Nat.reduceAdd, Nat.reduceLT, Nat.reduceMul, Nat.reduceLeDiff, Int.reduceToNat, Int.reduceLT, Int.reduceLE, ha0, on_atB hl0, lt_add hl0, lt_at hl0, on_updB hl0, on_atU hl0, on_updU hl0, upd_same ha0]; rfl) ?_
  refine w_n ?_
  refine w_seq ?_
  refine A_ops ?_
  refine w_upto 1 rfl (by simp (disch := (apply Apart.mk; decide)) only [go_sem, Nat.reduceAdd, Nat.reduceLT, Nat.reduceMul, Nat.reduceLeDiff, Int.reduceToNat, Int.reduceLT, Int.reduceLE, ha0, on_atB hl0, lt_add hl0, lt_at hl0, on_updB hl0, on_atU hl0, on_updU hl0, upd_same ha0]; rfl) ?_
  obtain ⟨r1, eF1, hr⟩ := hr.bind
  refine w_call' (out := ?o_eF1) (hp := ?p_eF1) rfl (by simp (disch := (apply Apart.mk; decide)) only [go_sem, Nat.reduceAdd, Nat.reduceLT, Nat.reduceMul, Nat.reduceLeDiff, Int.reduceToNat, Int.reduceLT, Int.reduceLE, ha0, on_atB hl0, lt_add hl0, lt_at hl0, on_updB hl0, on_atU hl0, on_updU hl0, upd_same ha0, Option.getD_some]; rfl) (by simp (disch := (apply Apart.mk; decide)) only [go_sem, Nat.reduceAdd, Nat.reduceLT, Nat.reduceMul, Nat.reduceLeDiff, Int.reduceToNat, Int.reduceLT, Int.reduceLE, ha0, on_atB hl0, lt_add hl0, lt_at hl0, on_updB hl0, on_atU hl0, on_updU hl0, upd_same ha0, Option.getD_some]; rfl) (by simp (disch := (apply Apart.mk; decide)) only [go_sem, Nat.reduceAdd, Nat.reduceLT, Nat.reduceMul, Nat.reduceLeDiff, Int.reduceToNat, Int.reduceLT, Int.reduceLE, ha0, on_atB hl0, lt_add hl0, lt_at hl0, on_updB hl0, on_atU hl0, on_updU hl0, upd_same ha0, Option.getD_some]; rfl) ?c_eF1 ?d_eF1 ?_
  case c_eF1 => (refine lex_reader_at_runs r (l0) ?_ eF1; (simp (disch := (apply Apart.mk; decide)) only [go_sem, Nat.reduceAdd, Nat.reduceLT, Nat.reduceMul, Nat.reduceLeDiff, Int.reduceToNat, Int.reduceLT, Int.reduceLE, ha0, on_atB hl0, lt_add hl0, lt_at hl0, on_updB hl0, on_atU hl0, on_updU hl0, upd_same ha0]))
  case d_eF1 => rfl
  refine w_ops_end (by simp (disch := (apply Apart.mk; decide)) only [go_sem, Nat.reduceAdd, Nat.reduceLT, Nat.reduceMul, Nat.reduceLeDiff, Int.reduceToNat, Int.reduceLT, Int.reduceLE, ha0, on_atB hl0, lt_add hl0, lt_at hl0, on_updB hl0, on_atU hl0, on_updU hl0, upd_same ha0]; rfl) ?_
  refine w_n ?_
  refine w_seq ?_
  refine A_ops ?_
  refine w_upto 1 rfl (by simp (disch := (apply Apart.mk; decide)) only [go_sem, Nat.reduceAdd, Nat.reduceLT, Nat.reduceMul, Nat.reduceLeDiff, Int.reduceToNat, Int.reduceLT, Int.reduceLE, ha0, on_atB hl0, lt_add hl0, lt_at hl0, on_updB hl0, on_atU hl0, on_updU hl0, upd_same ha0]; rfl) ?_
  obtain ⟨r2, eF2, hr⟩ := hr.bind
  refine w_call' (out := ?o_eF2) (hp := ?p_eF2) rfl (by simp (disch := (apply Apart.mk; decide)) only [go_sem, Nat.reduceAdd, Nat.reduceLT, Nat.reduceMul, Nat.reduceLeDiff, Int.reduceToNat, Int.reduceLT, Int.reduceLE, ha0, on_atB hl0, lt_add hl0, lt_at hl0, on_updB hl0, on_atU hl0, on_updU hl0, upd_same ha0, Option.getD_some]; rfl) (by simp (disch := (apply Apart.mk; decide)) only [go_sem, Nat.reduceAdd, Nat.reduceLT, Nat.reduceMul, Nat.reduceLeDiff, Int.reduceToNat, Int.reduceLT, Int.reduceLE, ha0, on_atB hl0, lt_add hl0, lt_at hl0, on_updB hl0, on_atU hl0, on_updU hl0, upd_same ha0, Option.getD_some]; rfl) (by simp (disch := (apply Apart.mk; decide)) only [go_sem, Nat.reduceAdd, Nat.reduceLT, Nat.reduceMul, Nat.reduceLeDiff, Int.reduceToNat, Int.reduceLT, Int.reduceLE, ha0, on_atB hl0, lt_add hl0, lt_at hl0, on_updB hl0, on_atU hl0, on_updU hl0, upd_same ha0, Option.getD_some]; rfl) ?c_eF2 ?d_eF2 ?_
  case c_eF2 => (refine lex_reader_take_runs r (lex_reader_token_1) (l0) _ _ ?_ ?_ ?_ eF2; (exact (fun os x0 r e => lex_reader_token_1_runs x0 e)); (exact (fun i => by simp [CT])); (simp (disch := (apply Apart.mk; decide)) only [go_sem, Nat.reduceAdd, Nat.reduceLT, Nat.reduceMul, Nat.reduceLeDiff, Int.reduceToNat, Int.reduceLT, Int.reduceLE, ha0, on_atB hl0, lt_add hl0, lt_at hl0, on_updB hl0, on_atU hl0, on_updU hl0, upd_same ha0]))
  case d_eF2 => rfl
  refine w_ops_end (by simp (disch := (apply Apart.mk; decide)) only [go_sem, Nat.reduceAdd, Nat.reduceLT, Nat.reduceMul, Nat.reduceLeDiff, Int.reduceToNat, Int.reduceLT, Int.reduceLE, ha0, on_atB hl0, lt_add hl0, lt_at hl0, on_updB hl0, on_atU hl0, on_updU hl0, upd_same ha0]; rfl) ?_
  refine w_n ?_
  refine w_seq ?_
  refine w_K (D := D) (fun xX : (Int × List TUnit × Int × Int × Int) => ⟨[(0, .cv (.val (.ptr (some (l0, 0))))), (1, .cv (.val (.sl (List.map eU b)))), (4, .cv (.val (.ptr (some (h.n + 0, 0))))), (5, .cv (.val (.ptr (some (h.n + 1, 0)))))], (h.upd l0 (.cells [.val (.sl (List.map eUnit xX.2.1)), .val (.int .i64 xX.2.2.1), .val (.int .i64 xX.2.2.2.1), .val (.int .i64 xX.2.2.2.2)])).on [some (.cells [.val (.int .i64 (0 : Int)), .val (.int .i64 (0 : Int)), .val (.str (bs ([] : Str))), .nil]), some (.cells [.val (.int .i64 xX.1), .val (.int .i64 r1), .val (.str (bs ([] : Str))), .nil])]⟩) (fun xX : (Int × List TUnit × Int × Int × Int) => lex_reader_token.k1 b r1 xX.1 xX.2.1 xX.2.2.1 xX.2.2.2.1 xX.2.2.2.2) (fun xX s' hr ht => ?_) ?_
  · obtain ⟨Kind, units, place, whole, fault⟩ := xX
    dsimp only [lex_reader_token.k1] at hr ht
    refine (w_nT ht ?_)
    refine w_seq ?_
    refine w_drawn [0, 1, 2, 3, 4, 5, 6, 7, 8] (by rfl) ?_
    refine p_run (l := [0, 1, 2, 3]) (pend' := [3, 2, 1, 0]) (by simp (disch := (apply Apart.mk; decide)) only [go_sem, Nat.reduceAdd, Nat.reduceLT, Nat.reduceMul, Nat.reduceLeDiff, Int.reduceToNat, Int.reduceLT, Int.reduceLE, ha0, on_atB hl0, lt_add hl0, lt_at hl0, on_updB hl0, on_atU hl0, on_updU hl0, upd_same ha0]; rfl) rfl ?_
    obtain ⟨r3, eF3, hr⟩ := hr.bind
    refine p_call (out := ?o_eF3) (hp := ?p_eF3) (pend' := [2, 1, 0]) rfl (by simp (disch := (apply Apart.mk; decide)) only [go_sem, Nat.reduceAdd, Nat.reduceLT, Nat.reduceMul, Nat.reduceLeDiff, Int.reduceToNat, Int.reduceLT, Int.reduceLE, ha0, on_atB hl0, lt_add hl0, lt_at hl0, on_updB hl0, on_atU hl0, on_updU hl0, upd_same ha0, Option.getD_some]) rfl (by simp (disch := (apply Apart.mk; decide)) only [go_sem, Nat.reduceAdd, Nat.reduceLT, Nat.reduceMul, Nat.reduceLeDiff, Int.reduceToNat, Int.reduceLT, Int.reduceLE, ha0, on_atB hl0, lt_add hl0, lt_at hl0, on_updB hl0, on_atU hl0, on_updU hl0, upd_same ha0, Option.getD_some]; rfl) (by simp (disch := (apply Apart.mk; decide)) only [go_sem, Nat.reduceAdd, Nat.reduceLT, Nat.reduceMul, Nat.reduceLeDiff, Int.reduceToNat, Int.reduceLT, Int.reduceLE, ha0, on_atB hl0, lt_add hl0, lt_at hl0, on_updB hl0, on_atU hl0, on_updU hl0, upd_same ha0, Option.getD_some]; rfl) (by simp (disch := (apply Apart.mk; decide)) only [go_sem, Nat.reduceAdd, Nat.reduceLT, Nat.reduceMul, Nat.reduceLeDiff, Int.reduceToNat, Int.reduceLT, Int.reduceLE, ha0, on_atB hl0, lt_add hl0, lt_at hl0, on_updB hl0, on_atU hl0, on_updU hl0, upd_same ha0, Option.getD_some]; rfl) (by rfl) ?c_eF3 ?d_eF3 ?_
    case c_eF3 => (refine lex_reader_at_runs (Tlex_reader.mk units place whole fault) (l0) ?_ eF3; (simp (disch := (apply Apart.mk; decide)) only [go_sem, Nat.reduceAdd, Nat.reduceLT, Nat.reduceMul, Nat.reduceLeDiff, Int.reduceToNat, Int.reduceLT, Int.reduceLE, ha0, on_atB hl0, lt_add hl0, lt_at hl0, on_updB hl0, on_atU hl0, on_updU hl0, upd_same ha0]))
    case d_eF3 => rfl
    obtain ⟨nF4, nF5, nF6, nF7, hr⟩ := hr.cut
    refine p_run (l := [5, 6, 7]) (pend' := [7, 6, 5, 2, 1, 0]) (by simp (disch := (apply Apart.mk; decide)) only [go_sem, Nat.reduceAdd, Nat.reduceLT, Nat.reduceMul, Nat.reduceLeDiff, Int.reduceToNat, Int.reduceLT, Int.reduceLE, ha0, on_atB hl0, lt_add hl0, lt_at hl0, on_updB hl0, on_atU hl0, on_updU hl0, upd_same ha0, nF4, nF5, nF6, nF7]; rfl) rfl ?_
    refine p_op (pend' := []) rfl (by simp (disch := (apply Apart.mk; decide)) only [go_sem, Nat.reduceAdd, Nat.reduceLT, Nat.reduceMul, Nat.reduceLeDiff, Int.reduceToNat, Int.reduceLT, Int.reduceLE, ha0, on_atB hl0, lt_add hl0, lt_at hl0, on_updB hl0, on_atU hl0, on_updU hl0, upd_same ha0, nF4, nF5, nF6, nF7]) (by simp (disch := (apply Apart.mk; decide)) only [go_sem, Nat.reduceAdd, Nat.reduceLT, Nat.reduceMul, Nat.reduceLeDiff, Int.reduceToNat, Int.reduceLT, Int.reduceLE, ha0, on_atB hl0, lt_add hl0, lt_at hl0, on_updB hl0, on_atU hl0, on_updU hl0, upd_same ha0, nF4, nF5, nF6, nF7]; rfl) (by rfl) ?_
    refine p_end (by simp (disch := (apply Apart.mk; decide)) only [go_sem, Nat.reduceAdd, Nat.reduceLT, Nat.reduceMul, Nat.reduceLeDiff, Int.reduceToNat, Int.reduceLT, Int.reduceLE, ha0, on_atB hl0, lt_add hl0, lt_at hl0, on_updB hl0, on_atU hl0, on_updU hl0, upd_same ha0, nF4, nF5, nF6, nF7]) ?_
    refine w_n ?_
    refine w_seq ?_
    refine w_region rfl (by simp (disch := (apply Apart.mk; decide)) only [go_sem, Nat.reduceAdd, Nat.reduceLT, Nat.reduceMul, Nat.reduceLeDiff, Int.reduceToNat, Int.reduceLT, Int.reduceLE, ha0, on_atB hl0, lt_add hl0, lt_at hl0, on_updB hl0, on_atU hl0, on_updU hl0, upd_same ha0]; rfl) ?_
    refine w_n ?_
    refine w_ret ?_
    obtain rfl := hD _ hr
    exact (w_endRD (To.cut (os' := [some (.cells [.val (.int .i64 (TToken.mk Kind r1 (List.drop (Int.toNat r1) (List.take (Int.toNat r3) b)) []).Kind), .val (.int .i64 (TToken.mk Kind r1 (List.drop (Int.toNat r1) (List.take (Int.toNat r3) b)) []).At), .val (.str (bs (TToken.mk Kind r1 (List.drop (Int.toNat r1) (List.take (Int.toNat r3) b)) []).Text)), .val (.sl (List.map eRange (TToken.mk Kind r1 (List.drop (Int.toNat r1) (List.take (Int.toNat r3) b)) []).Set))])]) (sl := [(4, .cv (.val (.ptr (some (h.n + 0, 0)))))]) (h := (h.upd l0 (.cells [.val (.sl (List.map eUnit units)), .val (.int .i64 place), .val (.int .i64 whole), .val (.int .i64 fault)]))) (WF.upd hwf hl0 (by simp (disch := (apply Apart.mk; decide)) only [go_sem, Nat.reduceAdd, Nat.reduceLT, Nat.reduceMul, Nat.reduceLeDiff, Int.reduceToNat, Int.reduceLT, Int.reduceLE, ha0, on_atB hl0, lt_add hl0, lt_at hl0, on_updB hl0, on_atU hl0, on_updU hl0, upd_same ha0])) (Nat.le_refl _) (by first | rfl | (simp (disch := (apply Apart.mk; decide)) only [go_sem, Nat.reduceAdd, Nat.reduceLT, Nat.reduceMul, Nat.reduceLeDiff, Int.reduceToNat, Int.reduceLT, Int.reduceLE, ha0, on_atB hl0, lt_add hl0, lt_at hl0, on_updB hl0, on_atU hl0, on_updU hl0, upd_same ha0]; rfl)) (by simp (disch := (apply Apart.mk; decide)) only [go_sem, Nat.reduceAdd, Nat.reduceLT, Nat.reduceMul, Nat.reduceLeDiff, Int.reduceToNat, Int.reduceLT, Int.reduceLE, ha0, on_atB hl0, lt_add hl0, lt_at hl0, on_updB hl0, on_atU hl0, on_updU hl0, upd_same ha0])) (by simp (disch := (apply Apart.mk; decide)) only [go_sem, Nat.reduceAdd, Nat.reduceLT, Nat.reduceMul, Nat.reduceLeDiff, Int.reduceToNat, Int.reduceLT, Int.reduceLE, ha0, on_atB hl0, lt_add hl0, lt_at hl0, on_updB hl0, on_atU hl0, on_updU hl0, upd_same ha0, Try.results45, results_data CT_gives45, resCell, resVal.eq_2, loadOp_sv]) (Drops.on (h := (h.upd l0 (.cells [.val (.sl (List.map eUnit units)), .val (.int .i64 place), .val (.int .i64 whole), .val (.int .i64 fault)]))) (os := [some (.cells [.val (.int .i64 (TToken.mk Kind r1 (List.drop (Int.toNat r1) (List.take (Int.toNat r3) b)) []).Kind), .val (.int .i64 (TToken.mk Kind r1 (List.drop (Int.toNat r1) (List.take (Int.toNat r3) b)) []).At), .val (.str (bs (TToken.mk Kind r1 (List.drop (Int.toNat r1) (List.take (Int.toNat r3) b)) []).Text)), .val (.sl (List.map eRange (TToken.mk Kind r1 (List.drop (Int.toNat r1) (List.take (Int.toNat r3) b)) []).Set))])]) (os' := []) (WF.upd hwf hl0 (by simp (disch := (apply Apart.mk; decide)) only [go_sem, Nat.reduceAdd, Nat.reduceLT, Nat.reduceMul, Nat.reduceLeDiff, Int.reduceToNat, Int.reduceLT, Int.reduceLE, ha0, on_atB hl0, lt_add hl0, lt_at hl0, on_updB hl0, on_atU hl0, on_updU hl0, upd_same ha0])) (Nat.le_refl _) (by simp (disch := (apply Apart.mk; decide)) only [go_sem, Nat.reduceAdd, Nat.reduceLT, Nat.reduceMul, Nat.reduceLeDiff, Int.reduceToNat, Int.reduceLT, Int.reduceLE, ha0, on_atB hl0, lt_add hl0, lt_at hl0, on_updB hl0, on_atU hl0, on_updU hl0, upd_same ha0])) ⟨rfl, on_nil (h := (h.upd l0 (.cells [.val (.sl (List.map eUnit units)), .val (.int .i64 place), .val (.int .i64 whole), .val (.int .i64 fault)]))) (WF.upd hwf hl0 (by simp (disch := (apply Apart.mk; decide)) only [go_sem, Nat.reduceAdd, Nat.reduceLT, Nat.reduceMul, Nat.reduceLeDiff, Int.reduceToNat, Int.reduceLT, Int.reduceLE, ha0, on_atB hl0, lt_add hl0, lt_at hl0, on_updB hl0, on_atU hl0, on_updU hl0, upd_same ha0]))⟩)
  · refine w_block ?_
    refine w_seq ?_
    refine w_region rfl (by simp (disch := (apply Apart.mk; decide)) only [go_sem, Nat.reduceAdd, Nat.reduceLT, Nat.reduceMul, Nat.reduceLeDiff, Int.reduceToNat, Int.reduceLT, Int.reduceLE, ha0, on_atB hl0, lt_add hl0, lt_at hl0, on_updB hl0, on_atU hl0, on_updU hl0, upd_same ha0]; rfl) ?_
    refine w_n ?_
    refine w_condH (by simp (disch := (apply Apart.mk; decide)) only [go_sem, Nat.reduceAdd, Nat.reduceLT, Nat.reduceMul, Nat.reduceLeDiff, Int.reduceToNat, Int.reduceLT, Int.reduceLE, ha0, on_atB hl0, lt_add hl0, lt_at hl0, on_updB hl0, on_atU hl0, on_updU hl0, upd_same ha0]) hr (fun cF8 hr => ?_) (fun cF8 hr => ?_)
    · refine w_seq ?_
      refine A_ops ?_
      refine w_upto 1 rfl (by simp (disch := (apply Apart.mk; decide)) only [go_sem, Nat.reduceAdd, Nat.reduceLT, Nat.reduceMul, Nat.reduceLeDiff, Int.reduceToNat, Int.reduceLT, Int.reduceLE, ha0, on_atB hl0, lt_add hl0, lt_at hl0, on_updB hl0, on_atU hl0, on_updU hl0, upd_same ha0]; rfl) ?_
      obtain ⟨r4, eF9, hr⟩ := hr.bind
      refine w_call' (out := ?o_eF9) (hp := ?p_eF9) rfl (by simp (disch := (apply Apart.mk; decide)) only [go_sem, Nat.reduceAdd, Nat.reduceLT, Nat.reduceMul, Nat.reduceLeDiff, Int.reduceToNat, Int.reduceLT, Int.reduceLE, ha0, on_atB hl0, lt_add hl0, lt_at hl0, on_updB hl0, on_atU hl0, on_updU hl0, upd_same ha0, Option.getD_some]; rfl) (by simp (disch := (apply Apart.mk; decide)) only [go_sem, Nat.reduceAdd, Nat.reduceLT, Nat.reduceMul, Nat.reduceLeDiff, Int.reduceToNat, Int.reduceLT, Int.reduceLE, ha0, on_atB hl0, lt_add hl0, lt_at hl0, on_updB hl0, on_atU hl0, on_updU hl0, upd_same ha0, Option.getD_some]; rfl) (by simp (disch := (apply Apart.mk; decide)) only [go_sem, Nat.reduceAdd, Nat.reduceLT, Nat.reduceMul, Nat.reduceLeDiff, Int.reduceToNat, Int.reduceLT, Int.reduceLE, ha0, on_atB hl0, lt_add hl0, lt_at hl0, on_updB hl0, on_atU hl0, on_updU hl0, upd_same ha0, Option.getD_some]; rfl) ?c_eF9 ?d_eF9 ?_
      case c_eF9 => (refine lex_reader_set_runs r2.2 (l0) ?_ eF9; (simp (disch := (apply Apart.mk; decide)) only [go_sem, Nat.reduceAdd, Nat.reduceLT, Nat.reduceMul, Nat.reduceLeDiff, Int.reduceToNat, Int.reduceLT, Int.reduceLE, ha0, on_atB hl0, lt_add hl0, lt_at hl0, on_updB hl0, on_atU hl0, on_updU hl0, upd_same ha0]))
      case d_eF9 => rfl
      refine w_ops_end (by simp (disch := (apply Apart.mk; decide)) only [go_sem, Nat.reduceAdd, Nat.reduceLT, Nat.reduceMul, Nat.reduceLeDiff, Int.reduceToNat, Int.reduceLT, Int.reduceLE, ha0, on_atB hl0, lt_add hl0, lt_at hl0, on_updB hl0, on_atU hl0, on_updU hl0, upd_same ha0]; rfl) ?_
      refine w_n ?_
      refine w_seq ?_
      refine w_region rfl (by simp (disch := (apply Apart.mk; decide)) only [go_sem, Nat.reduceAdd, Nat.reduceLT, Nat.reduceMul, Nat.reduceLeDiff, Int.reduceToNat, Int.reduceLT, Int.reduceLE, ha0, on_atB hl0, lt_add hl0, lt_at hl0, on_updB hl0, on_atU hl0, on_updU hl0, upd_same ha0, cF8]; rfl) ?_
      refine w_n ?_
      refine w_ret ?_
      obtain rfl := hD _ hr
      exact (w_br (w_tr (w_tr (w_endRD (To.cut (os' := [some (.cells [.val (.int .i64 (TToken.mk (3 : Int) r1 ([] : Str) r4.1).Kind), .val (.int .i64 (TToken.mk (3 : Int) r1 ([] : Str) r4.1).At), .val (.str (bs (TToken.mk (3 : Int) r1 ([] : Str) r4.1).Text)), .val (.sl (List.map eRange (TToken.mk (3 : Int) r1 ([] : Str) r4.1).Set))])]) (sl := [(4, .cv (.val (.ptr (some (h.n + 0, 0)))))]) (h := (h.upd l0 (.cells [.val (.sl (List.map eUnit r4.2.units)), .val (.int .i64 r4.2.place), .val (.int .i64 r4.2.whole), .val (.int .i64 r4.2.fault)]))) (WF.upd hwf hl0 (by simp (disch := (apply Apart.mk; decide)) only [go_sem, Nat.reduceAdd, Nat.reduceLT, Nat.reduceMul, Nat.reduceLeDiff, Int.reduceToNat, Int.reduceLT, Int.reduceLE, ha0, on_atB hl0, lt_add hl0, lt_at hl0, on_updB hl0, on_atU hl0, on_updU hl0, upd_same ha0])) (Nat.le_refl _) (by first | rfl | (simp (disch := (apply Apart.mk; decide)) only [go_sem, Nat.reduceAdd, Nat.reduceLT, Nat.reduceMul, Nat.reduceLeDiff, Int.reduceToNat, Int.reduceLT, Int.reduceLE, ha0, on_atB hl0, lt_add hl0, lt_at hl0, on_updB hl0, on_atU hl0, on_updU hl0, upd_same ha0, cF8]; rfl)) (by simp (disch := (apply Apart.mk; decide)) only [go_sem, Nat.reduceAdd, Nat.reduceLT, Nat.reduceMul, Nat.reduceLeDiff, Int.reduceToNat, Int.reduceLT, Int.reduceLE, ha0, on_atB hl0, lt_add hl0, lt_at hl0, on_updB hl0, on_atU hl0, on_updU hl0, upd_same ha0, cF8])) (by simp (disch := (apply Apart.mk; decide)) only [go_sem, Nat.reduceAdd, Nat.reduceLT, Nat.reduceMul, Nat.reduceLeDiff, Int.reduceToNat, Int.reduceLT, Int.reduceLE, ha0, on_atB hl0, lt_add hl0, lt_at hl0, on_updB hl0, on_atU hl0, on_updU hl0, upd_same ha0, Try.results45, results_data CT_gives45, resCell, resVal.eq_2, loadOp_sv, cF8]) (Drops.on (h := (h.upd l0 (.cells [.val (.sl (List.map eUnit r4.2.units)), .val (.int .i64 r4.2.place), .val (.int .i64 r4.2.whole), .val (.int .i64 r4.2.fault)]))) (os := [some (.cells [.val (.int .i64 (TToken.mk (3 : Int) r1 ([] : Str) r4.1).Kind), .val (.int .i64 (TToken.mk (3 : Int) r1 ([] : Str) r4.1).At), .val (.str (bs (TToken.mk (3 : Int) r1 ([] : Str) r4.1).Text)), .val (.sl (List.map eRange (TToken.mk (3 : Int) r1 ([] : Str) r4.1).Set))])]) (os' := []) (WF.upd hwf hl0 (by simp (disch := (apply Apart.mk; decide)) only [go_sem, Nat.reduceAdd, Nat.reduceLT, Nat.reduceMul, Nat.reduceLeDiff, Int.reduceToNat, Int.reduceLT, Int.reduceLE, ha0, on_atB hl0, lt_add hl0, lt_at hl0, on_updB hl0, on_atU hl0, on_updU hl0, upd_same ha0])) (Nat.le_refl _) (by simp (disch := (apply Apart.mk; decide)) only [go_sem, Nat.reduceAdd, Nat.reduceLT, Nat.reduceMul, Nat.reduceLeDiff, Int.reduceToNat, Int.reduceLT, Int.reduceLE, ha0, on_atB hl0, lt_add hl0, lt_at hl0, on_updB hl0, on_atU hl0, on_updU hl0, upd_same ha0, cF8])) ⟨rfl, on_nil (h := (h.upd l0 (.cells [.val (.sl (List.map eUnit r4.2.units)), .val (.int .i64 r4.2.place), .val (.int .i64 r4.2.whole), .val (.int .i64 r4.2.fault)]))) (WF.upd hwf hl0 (by simp (disch := (apply Apart.mk; decide)) only [go_sem, Nat.reduceAdd, Nat.reduceLT, Nat.reduceMul, Nat.reduceLeDiff, Int.reduceToNat, Int.reduceLT, Int.reduceLE, ha0, on_atB hl0, lt_add hl0, lt_at hl0, on_updB hl0, on_atU hl0, on_updU hl0, upd_same ha0]))⟩))))
    · refine w_seq ?_
      refine A_ops ?_
      refine w_upto 1 rfl (by simp (disch := (apply Apart.mk; decide)) only [go_sem, Nat.reduceAdd, Nat.reduceLT, Nat.reduceMul, Nat.reduceLeDiff, Int.reduceToNat, Int.reduceLT, Int.reduceLE, ha0, on_atB hl0, lt_add hl0, lt_at hl0, on_updB hl0, on_atU hl0, on_updU hl0, upd_same ha0]; rfl) ?_
      obtain ⟨r5, eF10, hr⟩ := hr.bind
      refine w_call' (out := ?o_eF10) (hp := ?p_eF10) rfl (by simp (disch := (apply Apart.mk; decide)) only [go_sem, Nat.reduceAdd, Nat.reduceLT, Nat.reduceMul, Nat.reduceLeDiff, Int.reduceToNat, Int.reduceLT, Int.reduceLE, ha0, on_atB hl0, lt_add hl0, lt_at hl0, on_updB hl0, on_atU hl0, on_updU hl0, upd_same ha0, Option.getD_some]; rfl) (by simp (disch := (apply Apart.mk; decide)) only [go_sem, Nat.reduceAdd, Nat.reduceLT, Nat.reduceMul, Nat.reduceLeDiff, Int.reduceToNat, Int.reduceLT, Int.reduceLE, ha0, on_atB hl0, lt_add hl0, lt_at hl0, on_updB hl0, on_atU hl0, on_updU hl0, upd_same ha0, Option.getD_some]; rfl) (by simp (disch := (apply Apart.mk; decide)) only [go_sem, Nat.reduceAdd, Nat.reduceLT, Nat.reduceMul, Nat.reduceLeDiff, Int.reduceToNat, Int.reduceLT, Int.reduceLE, ha0, on_atB hl0, lt_add hl0, lt_at hl0, on_updB hl0, on_atU hl0, on_updU hl0, upd_same ha0, Option.getD_some]; rfl) ?c_eF10 ?d_eF10 ?_
      case c_eF10 => exact lex_lower_runs r2.1 eF10
      case d_eF10 => rfl
      refine w_ops_end (by simp (disch := (apply Apart.mk; decide)) only [go_sem, Nat.reduceAdd, Nat.reduceLT, Nat.reduceMul, Nat.reduceLeDiff, Int.reduceToNat, Int.reduceLT, Int.reduceLE, ha0, on_atB hl0, lt_add hl0, lt_at hl0, on_updB hl0, on_atU hl0, on_updU hl0, upd_same ha0]; rfl) ?_
      refine w_n ?_
      refine w_condH (by simp (disch := (apply Apart.mk; decide)) only [go_sem, Nat.reduceAdd, Nat.reduceLT, Nat.reduceMul, Nat.reduceLeDiff, Int.reduceToNat, Int.reduceLT, Int.reduceLE, ha0, on_atB hl0, lt_add hl0, lt_at hl0, on_updB hl0, on_atU hl0, on_updU hl0, upd_same ha0, cF8]) hr (fun cF11 hr => ?_) (fun cF11 hr => ?_)
      · refine w_seq ?_
        refine w_region rfl (by simp (disch := (apply Apart.mk; decide)) only [go_sem, Nat.reduceAdd, Nat.reduceLT, Nat.reduceMul, Nat.reduceLeDiff, Int.reduceToNat, Int.reduceLT, Int.reduceLE, ha0, on_atB hl0, lt_add hl0, lt_at hl0, on_updB hl0, on_atU hl0, on_updU hl0, upd_same ha0, cF8, cF11]; rfl) ?_
        refine w_n ?_
        refine A_ops ?_
        refine w_upto 1 rfl (by simp (disch := (apply Apart.mk; decide)) only [go_sem, Nat.reduceAdd, Nat.reduceLT, Nat.reduceMul, Nat.reduceLeDiff, Int.reduceToNat, Int.reduceLT, Int.reduceLE, ha0, on_atB hl0, lt_add hl0, lt_at hl0, on_updB hl0, on_atU hl0, on_updU hl0, upd_same ha0]; rfl) ?_
        obtain ⟨r6, eF12, hr⟩ := hr.bind
        refine w_call' (out := ?o_eF12) (hp := ?p_eF12) rfl (by simp (disch := (apply Apart.mk; decide)) only [go_sem, Nat.reduceAdd, Nat.reduceLT, Nat.reduceMul, Nat.reduceLeDiff, Int.reduceToNat, Int.reduceLT, Int.reduceLE, ha0, on_atB hl0, lt_add hl0, lt_at hl0, on_updB hl0, on_atU hl0, on_updU hl0, upd_same ha0, Option.getD_some]; rfl) (by simp (disch := (apply Apart.mk; decide)) only [go_sem, Nat.reduceAdd, Nat.reduceLT, Nat.reduceMul, Nat.reduceLeDiff, Int.reduceToNat, Int.reduceLT, Int.reduceLE, ha0, on_atB hl0, lt_add hl0, lt_at hl0, on_updB hl0, on_atU hl0, on_updU hl0, upd_same ha0, Option.getD_some]; rfl) (by simp (disch := (apply Apart.mk; decide)) only [go_sem, Nat.reduceAdd, Nat.reduceLT, Nat.reduceMul, Nat.reduceLeDiff, Int.reduceToNat, Int.reduceLT, Int.reduceLE, ha0, on_atB hl0, lt_add hl0, lt_at hl0, on_updB hl0, on_atU hl0, on_updU hl0, upd_same ha0, Option.getD_some]; rfl) ?c_eF12 ?d_eF12 ?_
        case c_eF12 => (refine lex_reader_skip_runs r2.2 (lex_goes) (l0) _ _ ?_ ?_ ?_ eF12; (exact (fun os x0 r e => lex_goes_runs x0 e)); (exact (fun i => by simp [CT])); (simp (disch := (apply Apart.mk; decide)) only [go_sem, Nat.reduceAdd, Nat.reduceLT, Nat.reduceMul, Nat.reduceLeDiff, Int.reduceToNat, Int.reduceLT, Int.reduceLE, ha0, on_atB hl0, lt_add hl0, lt_at hl0, on_updB hl0, on_atU hl0, on_updU hl0, upd_same ha0]))
        case d_eF12 => rfl
        refine w_ops_nil ?_
        exact (w_bn (w_k ⟨((1 : Int), r6.units, r6.place, r6.whole, r6.fault), hr, (To.cut (h := (h.upd l0 (.cells [.val (.sl (List.map eUnit r6.units)), .val (.int .i64 r6.place), .val (.int .i64 r6.whole), .val (.int .i64 r6.fault)]))) (WF.upd hwf hl0 (by simp (disch := (apply Apart.mk; decide)) only [go_sem, Nat.reduceAdd, Nat.reduceLT, Nat.reduceMul, Nat.reduceLeDiff, Int.reduceToNat, Int.reduceLT, Int.reduceLE, ha0, on_atB hl0, lt_add hl0, lt_at hl0, on_updB hl0, on_atU hl0, on_updU hl0, upd_same ha0])) (Nat.le_refl _) (by first | rfl | (simp (disch := (apply Apart.mk; decide)) only [go_sem, Nat.reduceAdd, Nat.reduceLT, Nat.reduceMul, Nat.reduceLeDiff, Int.reduceToNat, Int.reduceLT, Int.reduceLE, ha0, on_atB hl0, lt_add hl0, lt_at hl0, on_updB hl0, on_atU hl0, on_updU hl0, upd_same ha0, cF8, cF11]; rfl)) (by simp (disch := (apply Apart.mk; decide)) only [go_sem, Nat.reduceAdd, Nat.reduceLT, Nat.reduceMul, Nat.reduceLeDiff, Int.reduceToNat, Int.reduceLT, Int.reduceLE, ha0, on_atB hl0, lt_add hl0, lt_at hl0, on_updB hl0, on_atU hl0, on_updU hl0, upd_same ha0, cF8, cF11]))⟩))
      · refine w_region rfl (by simp (disch := (apply Apart.mk; decide)) only [go_sem, Nat.reduceAdd, Nat.reduceLT, Nat.reduceMul, Nat.reduceLeDiff, Int.reduceToNat, Int.reduceLT, Int.reduceLE, ha0, on_atB hl0, lt_add hl0, lt_at hl0, on_updB hl0, on_atU hl0, on_updU hl0, upd_same ha0, cF8, cF11]; rfl) ?_
        exact (w_bn (w_k ⟨((2 : Int), r2.2.units, r2.2.place, r2.2.whole, r2.2.fault), hr, (To.cut (h := (h.upd l0 (.cells [.val (.sl (List.map eUnit r2.2.units)), .val (.int .i64 r2.2.place), .val (.int .i64 r2.2.whole), .val (.int .i64 r2.2.fault)]))) (WF.upd hwf hl0 (by simp (disch := (apply Apart.mk; decide)) only [go_sem, Nat.reduceAdd, Nat.reduceLT, Nat.reduceMul, Nat.reduceLeDiff, Int.reduceToNat, Int.reduceLT, Int.reduceLE, ha0, on_atB hl0, lt_add hl0, lt_at hl0, on_updB hl0, on_atU hl0, on_updU hl0, upd_same ha0])) (Nat.le_refl _) (by first | rfl | (simp (disch := (apply Apart.mk; decide)) only [go_sem, Nat.reduceAdd, Nat.reduceLT, Nat.reduceMul, Nat.reduceLeDiff, Int.reduceToNat, Int.reduceLT, Int.reduceLE, ha0, on_atB hl0, lt_add hl0, lt_at hl0, on_updB hl0, on_atU hl0, on_updU hl0, upd_same ha0, cF8, cF11]; rfl)) (by simp (disch := (apply Apart.mk; decide)) only [go_sem, Nat.reduceAdd, Nat.reduceLT, Nat.reduceMul, Nat.reduceLeDiff, Int.reduceToNat, Int.reduceLT, Int.reduceLE, ha0, on_atB hl0, lt_add hl0, lt_at hl0, on_updB hl0, on_atU hl0, on_updU hl0, upd_same ha0, cF8, cF11]))⟩))
end Go.Val

/- part IW15 -/
/- scansion/lex.Tokens runs as it is read off. -/
namespace Go.Val
set_option linter.unusedVariables false
set_option linter.unusedSimpArgs false
set_option maxRecDepth 20000
open Go.Proofs
theorem lex_Tokens_runs (b : List UInt8) {h : Heap} {a : (List TToken × Int × Int)} (e : lex_Tokens b = some a) :
    Runs CT 15 [.cv (.val (.sl (List.map eU b)))] h fun o h' => o = [.cv (.val (.sl (List.map eToken a.1))), .cv (.val (.int .i64 a.2.1)), .cv (.val (.int .i64 a.2.2))] ∧ h' = h := by
  refine Runs.start Try.f15 _ Try.func15 rfl (by rw [Try.ntmps15]; simp) (by rfl) (by rfl) (fun hwf hu => ?_)
  obtain ⟨D, hD, hr⟩ : ∃ D : (List TToken × Int × Int) → Prop, (∀ z, D z → z = a) ∧ Holds (lex_Tokens b) D := ⟨fun z => z = a, fun _ h => h, Holds.intro e rfl⟩
  dsimp only [lex_Tokens] at hr
  change wpCode _ _ _ _ _ ⟨[(0, .cv (.val (.sl (List.map eU b))))], h.on []⟩
  refine w_seq ?_
  refine A_region ?_
  refine w_n ?_
  refine w_seq ?_
  refine w_seq ?_
  refine A_region ?_
  refine w_n ?_
  refine A_condH hr (fun cF1 hr => ?_) (fun cF1 hr => ?_)
  · refine w_seq ?_
    refine A_region ?_
    refine w_n ?_
    refine w_ret ?_
    obtain rfl := hD _ hr
    exact (w_tr (A_endR (A_cut (os' := []) (sl := [(2, .cv (.val (.sl (List.map eToken ([] : List TToken))))), (3, .cv (.val (.int .i64 (0 : Int)))), (4, .cv (.val (.int .i64 (3 : Int))))]) hwf) ⟨rfl, on_nil hwf⟩))
  · refine w_skip ?_
    refine w_n ?_
    refine w_seq ?_
    refine A_ops ?_
    refine A_upto 1 ?_
    obtain ⟨r, eF2, hr⟩ := hr.bind
    refine A_call (out := ?o_eF2) (hp := ?p_eF2) ?c_eF2 ?d_eF2 ?_
    case c_eF2 => exact utf_Decode_runs b eF2
    case d_eF2 => rfl
    refine A_ops_end ?_
    refine w_n ?_
    refine w_seq ?_
    refine A_region ?_
    refine w_n ?_
    refine w_seq ?_
    refine w_seq ?_
    refine A_ops ?_
    refine A_upto 1 ?_
    obtain ⟨r1, eF3, hr⟩ := hr.bind
    refine A_call (out := ?o_eF3) (hp := ?p_eF3) ?c_eF3 ?d_eF3 ?_
    case c_eF3 => (refine lex_reader_blank_runs (Tlex_reader.mk r (0 : Int) (b.length : Int) (0 : Int)) (h.n + 0) ?_ eF3; (simp (disch := (apply Apart.mk; decide)) only [go_sem, Nat.reduceAdd, Nat.reduceLT, Nat.reduceMul, Nat.reduceLeDiff, Int.reduceToNat, Int.reduceLT, Int.reduceLE]))
    case d_eF3 => rfl
    refine w_ops_nil ?_
    refine w_n ?_
    refine w_K (D := D) (fun xX : List TToken => ⟨[(0, .cv (.val (.sl (List.map eU b)))), (6, .cv (.row 33 (List.map eToken xX)))], h.on []⟩) (fun xX : List TToken => lex_Tokens.k1 b xX) (fun xX s' hr ht => ?_) ?_
    · obtain ⟨out, rfl⟩ : ∃ z, z = xX := ⟨xX, rfl⟩
      dsimp only [lex_Tokens.k1] at hr ht
      refine (w_nT ht ?_)
      refine w_seq ?_
      obtain ⟨nF4, hr⟩ := hr.room
      refine A_region ?_
      refine w_n ?_
      refine w_ret ?_
      obtain rfl := hD _ hr
      exact (A_endR (.fix _ _ (.slot 2) 33 _ (by simp (disch := (apply Apart.mk; decide)) only [go_sem, Nat.reduceAdd, Nat.reduceLT, Nat.reduceMul, Nat.reduceLeDiff, Int.reduceToNat, Int.reduceLT, Int.reduceLE, cF1]; rfl) (A_cut (os' := []) (sl := [(2, .cv (.val (.sl (List.map eToken (out ++ ([(TToken.mk (4 : Int) (b.length : Int) ([] : Str) [])])))))), (3, .cv (.val (.int .i64 (0 : Int)))), (4, .cv (.val (.int .i64 (0 : Int))))]) hwf)) ⟨rfl, on_nil hwf⟩)
    · refine w_block ?_
      refine w_Loop (fun xX : (List TToken × List TUnit × Int × Int × Int) => ⟨[(0, .cv (.val (.sl (List.map eU b)))), (5, .cv (.val (.ptr (some (h.n + 0, 0))))), (6, .cv (.row 33 (List.map eToken xX.1)))], h.on [some (.cells [.val (.sl (List.map eUnit xX.2.1)), .val (.int .i64 xX.2.2.1), .val (.int .i64 xX.2.2.2.1), .val (.int .i64 xX.2.2.2.2)])]⟩) hr (A_cut hwf) (fun W1 xX hr => ?_)
      obtain ⟨out1, units, place, whole, fault⟩ := xX
      dsimp only [lex_Tokens.b1] at hr
      refine w_seq ?_
      refine w_seq ?_
      refine A_ops ?_
      refine A_upto 1 ?_
      obtain ⟨r2, eF5, hr⟩ := hr.bind
      refine A_call (out := ?o_eF5) (hp := ?p_eF5) ?c_eF5 ?d_eF5 ?_
      case c_eF5 => (refine lex_reader_now_runs (Tlex_reader.mk units place whole fault) (h.n + 0) ?_ eF5; (simp (disch := (apply Apart.mk; decide)) only [go_sem, Nat.reduceAdd, Nat.reduceLT, Nat.reduceMul, Nat.reduceLeDiff, Int.reduceToNat, Int.reduceLT, Int.reduceLE]))
      case d_eF5 => rfl
      refine A_ops_end ?_
      refine w_n ?_
      refine A_condH hr (fun cF6 hr => ?_) (fun cF6 hr => ?_)
      · refine w_skip ?_
        refine w_n ?_
        refine w_seq ?_
        refine w_block ?_
        refine w_seq ?_
        refine A_ops ?_
        refine A_upto 3 ?_
        obtain ⟨r3, eF7, hr⟩ := hr.bind
        refine A_call (out := ?o_eF7) (hp := ?p_eF7) ?c_eF7 ?d_eF7 ?_
        case c_eF7 => (refine lex_reader_token_runs (Tlex_reader.mk units place whole fault) b (h.n + 0) ?_ eF7; (simp (disch := (apply Apart.mk; decide)) only [go_sem, Nat.reduceAdd, Nat.reduceLT, Nat.reduceMul, Nat.reduceLeDiff, Int.reduceToNat, Int.reduceLT, Int.reduceLE]))
        case d_eF7 => rfl
        obtain ⟨nF8, hr⟩ := hr.room
        refine A_ops_end ?_
        refine w_n ?_
        refine w_seq ?_
        refine A_region ?_
        refine w_n ?_
        refine A_condH hr (fun cF9 hr => ?_) (fun cF9 hr => ?_)
        · refine w_seq ?_
          refine w_drawn [0, 2, 3, 4, 5, 1, 6, 7, 8] (by rfl) ?_
          refine p_run (l := [0, 2, 3, 4, 5]) (pend' := [5, 4, 3, 2, 0]) (by simp (disch := (apply Apart.mk; decide)) only [go_sem, Nat.reduceAdd, Nat.reduceLT, Nat.reduceMul, Nat.reduceLeDiff, Int.reduceToNat, Int.reduceLT, Int.reduceLE]; rfl) rfl ?_
          obtain ⟨r4, eF10, hr⟩ := hr.bind
          refine p_call (out := ?o_eF10) (hp := ?p_eF10) (pend' := [5, 4, 3, 2]) rfl (by simp (disch := (apply Apart.mk; decide)) only [go_sem, Nat.reduceAdd, Nat.reduceLT, Nat.reduceMul, Nat.reduceLeDiff, Int.reduceToNat, Int.reduceLT, Int.reduceLE, Option.getD_some]) rfl (by simp (disch := (apply Apart.mk; decide)) only [go_sem, Nat.reduceAdd, Nat.reduceLT, Nat.reduceMul, Nat.reduceLeDiff, Int.reduceToNat, Int.reduceLT, Int.reduceLE, Option.getD_some]; rfl) (by simp (disch := (apply Apart.mk; decide)) only [go_sem, Nat.reduceAdd, Nat.reduceLT, Nat.reduceMul, Nat.reduceLeDiff, Int.reduceToNat, Int.reduceLT, Int.reduceLE, Option.getD_some]; rfl) (by simp (disch := (apply Apart.mk; decide)) only [go_sem, Nat.reduceAdd, Nat.reduceLT, Nat.reduceMul, Nat.reduceLeDiff, Int.reduceToNat, Int.reduceLT, Int.reduceLE, Option.getD_some]; rfl) (by rfl) ?c_eF10 ?d_eF10 ?_
          case c_eF10 => (refine lex_reader_at_runs r3.2 (h.n + 0) ?_ eF10; (simp (disch := (apply Apart.mk; decide)) only [go_sem, Nat.reduceAdd, Nat.reduceLT, Nat.reduceMul, Nat.reduceLeDiff, Int.reduceToNat, Int.reduceLT, Int.reduceLE]))
          case d_eF10 => rfl
          refine p_op (pend' := [5, 4, 3, 2]) rfl (by simp (disch := (apply Apart.mk; decide)) only [go_sem, Nat.reduceAdd, Nat.reduceLT, Nat.reduceMul, Nat.reduceLeDiff, Int.reduceToNat, Int.reduceLT, Int.reduceLE]) (by simp (disch := (apply Apart.mk; decide)) only [go_sem, Nat.reduceAdd, Nat.reduceLT, Nat.reduceMul, Nat.reduceLeDiff, Int.reduceToNat, Int.reduceLT, Int.reduceLE]; rfl) (by rfl) ?_
          refine p_op (pend' := [5, 4, 3, 2]) rfl (by simp (disch := (apply Apart.mk; decide)) only [go_sem, Nat.reduceAdd, Nat.reduceLT, Nat.reduceMul, Nat.reduceLeDiff, Int.reduceToNat, Int.reduceLT, Int.reduceLE]) (by simp (disch := (apply Apart.mk; decide)) only [go_sem, Nat.reduceAdd, Nat.reduceLT, Nat.reduceMul, Nat.reduceLeDiff, Int.reduceToNat, Int.reduceLT, Int.reduceLE]; rfl) (by rfl) ?_
          refine p_op (pend' := []) rfl (by simp (disch := (apply Apart.mk; decide)) only [go_sem, Nat.reduceAdd, Nat.reduceLT, Nat.reduceMul, Nat.reduceLeDiff, Int.reduceToNat, Int.reduceLT, Int.reduceLE]) (by simp (disch := (apply Apart.mk; decide)) only [go_sem, Nat.reduceAdd, Nat.reduceLT, Nat.reduceMul, Nat.reduceLeDiff, Int.reduceToNat, Int.reduceLT, Int.reduceLE]; rfl) (by rfl) ?_
          refine p_end (by simp (disch := (apply Apart.mk; decide)) only [go_sem, Nat.reduceAdd, Nat.reduceLT, Nat.reduceMul, Nat.reduceLeDiff, Int.reduceToNat, Int.reduceLT, Int.reduceLE]) ?_
          refine w_n ?_
          refine w_ret ?_
          obtain rfl := hD _ hr
          exact (w_br (w_tr (w_tr (w_br (w_tr (w_tr (A_endR (A_cut (os' := []) (sl := [(2, .cv (.val (.sl (List.map eToken ([] : List TToken))))), (3, .cv (.val (.int .i64 r4))), (4, .cv (.val (.int .i64 r3.2.fault)))]) hwf) ⟨rfl, on_nil hwf⟩)))))))
        · refine w_skip ?_
          refine (w_bn (w_n ?_))
          refine A_ops ?_
          refine A_upto 1 ?_
          obtain ⟨r5, eF11, hr⟩ := hr.bind
          refine A_call (out := ?o_eF11) (hp := ?p_eF11) ?c_eF11 ?d_eF11 ?_
          case c_eF11 => (refine lex_reader_blank_runs r3.2 (h.n + 0) ?_ eF11; (simp (disch := (apply Apart.mk; decide)) only [go_sem, Nat.reduceAdd, Nat.reduceLT, Nat.reduceMul, Nat.reduceLeDiff, Int.reduceToNat, Int.reduceLT, Int.reduceLE]))
          case d_eF11 => rfl
          refine w_ops_nil ?_
          exact (w_k ⟨((out1 ++ ([r3.1])), r5.units, r5.place, r5.whole, r5.fault), hr, (A_cut hwf)⟩)
      · refine w_exit ?_
        exact (w_te (w_te (w_bx (w_k ⟨out1, (hr).map, (A_cut hwf)⟩))))
end Go.Val

/- part IW14 -/
/- scansion/scansionlaw07.awake runs as it is read off. -/
namespace Go.Val
set_option linter.unusedVariables false
set_option linter.unusedSimpArgs false
set_option maxRecDepth 20000
open Go.Proofs
theorem scansionlaw07_awake_runs {h : Heap} {a : Bool} (e : scansionlaw07_awake = some a) :
    Runs CT 14 [] h fun o h' => o = [.cv (.val (.bool a))] ∧ h' = h := by
  refine Runs.start Try.f14 _ Try.func14 rfl (by rw [Try.ntmps14]; simp) (by rfl) (by rfl) (fun hwf hu => ?_)
  obtain ⟨D, hD, hr⟩ : ∃ D : Bool → Prop, (∀ z, D z → z = a) ∧ Holds (scansionlaw07_awake) D := ⟨fun z => z = a, fun _ h => h, Holds.intro e rfl⟩
  dsimp only [scansionlaw07_awake] at hr
  change wpCode _ _ _ _ _ ⟨[], h.on []⟩
  refine w_seq ?_
  refine A_region ?_
  refine w_n ?_
  refine w_seq ?_
  refine A_ops ?_
  refine A_upto 2 ?_
  obtain ⟨r, eF1, hr⟩ := hr.bind
  refine A_call (out := ?o_eF1) (hp := ?p_eF1) ?c_eF1 ?d_eF1 ?_
  case c_eF1 => exact lex_Tokens_runs ([(u8 (115 : Int)), (u8 (101 : Int)), (u8 (116 : Int)), (u8 (32 : Int)), (u8 (97 : Int)), (u8 (32 : Int)), (u8 (61 : Int)), (u8 (32 : Int)), (u8 (91 : Int)), (u8 (97 : Int)), (u8 (45 : Int)), (u8 (99 : Int)), (u8 (93 : Int)), (u8 (59 : Int))]) eF1
  case d_eF1 => rfl
  refine A_ops_end ?_
  refine w_n ?_
  obtain ⟨v, vF10, hr⟩ := hr.bind
  refine w_joinR (sj := ⟨[(0, .cv (.val (.bool v)))], h.on []⟩) (A_ops ?_) ?_
  · have hr := Holds.intro (D := fun z => z = v) vF10 rfl
    refine A_upto 3 ?_
    rcases hr.ite with ⟨cF2, hr⟩ | ⟨cF2, hr⟩
    · refine A_upto 5 ?_
      rcases hr.ite with ⟨cF3, hr⟩ | ⟨cF3, hr⟩
      · obtain ⟨x, eF4, gF5, hr⟩ := hr.idxK
        refine A_upto 7 ?_
        rcases hr.ite with ⟨cF6, hr⟩ | ⟨cF6, hr⟩
        · refine A_upto 8 ?_
          rcases hr.ite with ⟨cF7, hr⟩ | ⟨cF7, hr⟩
          · obtain ⟨x1, eF8, gF9, hr⟩ := hr.idxK
            refine A_ops_end ?_
            obtain rfl : _ = v := hr
            exact w_k (A_cut hwf)
          · refine A_ops_end ?_
            obtain rfl : _ = v := hr
            exact w_k (A_cut hwf)
        · refine A_ops_end ?_
          obtain rfl : _ = v := hr
          exact w_k (A_cut hwf)
      · refine A_ops_end ?_
        obtain rfl : _ = v := hr
        exact w_k (A_cut hwf)
    · refine A_ops_end ?_
      obtain rfl : _ = v := hr
      exact w_k (A_cut hwf)
  refine w_ret ?_
  obtain rfl := hD _ hr
  exact (A_endR (A_cut (os' := []) (sl := [(0, .cv (.val (.bool v)))]) hwf) ⟨rfl, on_nil hwf⟩)
end Go.Val

/- part IW114 -/
/- scansion/scansionref01.low runs as it is read off. -/
namespace Go.Val
set_option linter.unusedVariables false
set_option linter.unusedSimpArgs false
set_option maxRecDepth 20000
open Go.Proofs
theorem scansionref01_low_runs (b : UInt8) {h : Heap} {a : Int} (e : scansionref01_low b = some a) :
    Runs CT 114 [.cv (.val (.int .u8 (b.toNat : Int)))] h fun o h' => o = [.cv (.val (.int .i64 a))] ∧ h' = h := by
  refine Runs.start Try.f114 _ Try.func114 rfl (by rw [Try.ntmps114]; simp) (by rfl) (by rfl) (fun hwf hu => ?_)
  obtain ⟨D, hD, hr⟩ : ∃ D : Int → Prop, (∀ z, D z → z = a) ∧ Holds (scansionref01_low b) D := ⟨fun z => z = a, fun _ h => h, Holds.intro e rfl⟩
  dsimp only [scansionref01_low] at hr
  change wpCode _ _ _ _ _ ⟨[(0, .cv (.val (.int .u8 (b.toNat : Int))))], h.on []⟩
  refine w_seq ?_
  refine A_region ?_
  refine w_n ?_
  refine w_seq ?_
  refine w_region rfl (by simp (disch := (apply Apart.mk; decide)) only [go_sem, Nat.reduceAdd, Nat.reduceLT, Nat.reduceMul, Nat.reduceLeDiff, Int.reduceToNat, Int.reduceLT, Int.reduceLE, (eq_false (by decide : ¬ ((64 : Int) = 0)))]; rfl) ?_
  refine w_n ?_
  refine w_ret ?_
  obtain rfl := hD _ hr
  exact (A_endR (A_cut (os' := []) (sl := [(2, .cv (.val (.int .i64 (IntKind.i64.wrap (Int.tmod (b.toNat : Int) (64 : Int))))))]) hwf) ⟨rfl, on_nil hwf⟩)
end Go.Val

/- part IW132 -/
/- scansion/scansionref01.IsRune runs as it is read off. -/
namespace Go.Val
set_option linter.unusedVariables false
set_option linter.unusedSimpArgs false
set_option maxRecDepth 20000
open Go.Proofs
theorem scansionref01_IsRune_runs (r : Int) {h : Heap} {a : Bool} (e : scansionref01_IsRune r = some a) :
    Runs CT 132 [.cv (.val (.int .i64 r))] h fun o h' => o = [.cv (.val (.bool a))] ∧ h' = h := by
  refine Runs.start Try.f132 _ Try.func132 rfl (by rw [Try.ntmps132]; simp) (by rfl) (by rfl) (fun hwf hu => ?_)
  obtain ⟨D, hD, hr⟩ : ∃ D : Bool → Prop, (∀ z, D z → z = a) ∧ Holds (scansionref01_IsRune r) D := ⟨fun z => z = a, fun _ h => h, Holds.intro e rfl⟩
  dsimp only [scansionref01_IsRune] at hr
  change wpCode _ _ _ _ _ ⟨[(0, .cv (.val (.int .i64 r)))], h.on []⟩
  refine w_seq ?_
  refine A_region ?_
  refine w_n ?_
  refine w_joinR (sj := ⟨[(2, .cv (.val (.bool ((decide (r ≥ (0 : Int))) && ((decide (r ≤ (1114111 : Int))) && ((decide (r < (55296 : Int))) || (decide (r > (57343 : Int)))))))))], h.on []⟩) (A_ops ?_) ?_
  · refine A_upto 3 ?_
    rcases Bool.eq_false_or_eq_true (decide (r ≥ (0 : Int))) with cF1 | cF1
    · refine A_upto 4 ?_
      rcases Bool.eq_false_or_eq_true (decide (r ≤ (1114111 : Int))) with cF2 | cF2
      · refine A_upto 3 ?_
        rcases Bool.eq_false_or_eq_true (decide (r < (55296 : Int))) with cF3 | cF3
        · refine A_ops_end ?_
          exact w_k (A_cut hwf)
        · refine A_ops_end ?_
          exact w_k (A_cut hwf)
      · refine A_ops_end ?_
        exact w_k (A_cut hwf)
    · refine A_ops_end ?_
      exact w_k (A_cut hwf)
  refine w_ret ?_
  obtain rfl := hD _ hr
  exact (A_endR (A_cut (os' := []) (sl := [(2, .cv (.val (.bool ((decide (r ≥ (0 : Int))) && ((decide (r ≤ (1114111 : Int))) && ((decide (r < (55296 : Int))) || (decide (r > (57343 : Int)))))))))]) hwf) ⟨rfl, on_nil hwf⟩)
end Go.Val

/- part IW115 -/
/- scansion/scansionref01.Encode runs as it is read off. -/
namespace Go.Val
set_option linter.unusedVariables false
set_option linter.unusedSimpArgs false
set_option maxRecDepth 20000
open Go.Proofs
theorem scansionref01_Encode_runs (r : Int) {h : Heap} {a : (List UInt8 × Int)} (e : scansionref01_Encode r = some a) :
    Runs CT 115 [.cv (.val (.int .i64 r))] h fun o h' => o = [.cv (.val (.sl (List.map eU a.1))), .cv (.val (.int .i64 a.2))] ∧ h' = h := by
  refine Runs.start Try.f115 _ Try.func115 rfl (by rw [Try.ntmps115]; simp) (by rfl) (by rfl) (fun hwf hu => ?_)
  obtain ⟨D, hD, hr⟩ : ∃ D : (List UInt8 × Int) → Prop, (∀ z, D z → z = a) ∧ Holds (scansionref01_Encode r) D := ⟨fun z => z = a, fun _ h => h, Holds.intro e rfl⟩
  dsimp only [scansionref01_Encode] at hr
  change wpCode _ _ _ _ _ ⟨[(0, .cv (.val (.int .i64 r)))], h.on []⟩
  refine w_seq ?_
  refine A_region ?_
  refine w_n ?_
  refine w_seq ?_
  refine A_ops ?_
  refine A_upto 1 ?_
  obtain ⟨r1, eF1, hr⟩ := hr.bind
  refine A_call (out := ?o_eF1) (hp := ?p_eF1) ?c_eF1 ?d_eF1 ?_
  case c_eF1 => exact scansionref01_IsRune_runs r eF1
  case d_eF1 => rfl
  refine A_ops_end ?_
  refine w_n ?_
  refine w_seq ?_
  refine w_seq ?_
  refine A_region ?_
  refine w_n ?_
  refine A_condH hr (fun cF2 hr => ?_) (fun cF2 hr => ?_)
  · refine w_seq ?_
    refine A_region ?_
    refine w_n ?_
    refine w_ret ?_
    obtain rfl := hD _ hr
    exact (w_tr (A_endR (A_cut (os' := []) (sl := [(2, .cv (.val (.sl (List.map eU ([] : List UInt8))))), (3, .cv (.val (.int .i64 (1 : Int))))]) hwf) ⟨rfl, on_nil hwf⟩))
  · refine w_skip ?_
    refine w_n ?_
    refine w_seq ?_
    refine w_seq ?_
    refine A_region ?_
    refine w_n ?_
    refine A_condH hr (fun cF3 hr => ?_) (fun cF3 hr => ?_)
    · refine w_seq ?_
      refine A_region ?_
      refine w_n ?_
      refine w_ret ?_
      obtain rfl := hD _ hr
      exact (w_tr (A_endR (.fix _ _ (.slot 2) 5 _ (by simp (disch := (apply Apart.mk; decide)) only [go_sem, Nat.reduceAdd, Nat.reduceLT, Nat.reduceMul, Nat.reduceLeDiff, Int.reduceToNat, Int.reduceLT, Int.reduceLE, cF2, cF3]; rfl) (A_cut (os' := []) (sl := [(2, .cv (.val (.sl (List.map eU ([(u8 (IntKind.u8.wrap r))]))))), (3, .cv (.val (.int .i64 (0 : Int))))]) hwf)) ⟨rfl, on_nil hwf⟩))
    · refine w_skip ?_
      refine w_n ?_
      refine w_seq ?_
      refine w_seq ?_
      refine A_region ?_
      refine w_n ?_
      refine A_condH hr (fun cF4 hr => ?_) (fun cF4 hr => ?_)
      · refine w_seq ?_
        refine w_region rfl (by simp (disch := (apply Apart.mk; decide)) only [go_sem, Nat.reduceAdd, Nat.reduceLT, Nat.reduceMul, Nat.reduceLeDiff, Int.reduceToNat, Int.reduceLT, Int.reduceLE, (eq_false (by decide : ¬ ((64 : Int) = 0))), (eq_false (by decide : ¬ ((64 : Int) = 0))), cF2, cF3, cF4]; rfl) ?_
        refine w_n ?_
        refine w_ret ?_
        obtain rfl := hD _ hr
        exact (w_tr (A_endR (.fix _ _ (.slot 2) 5 _ (by simp (disch := (apply Apart.mk; decide)) only [go_sem, Nat.reduceAdd, Nat.reduceLT, Nat.reduceMul, Nat.reduceLeDiff, Int.reduceToNat, Int.reduceLT, Int.reduceLE, cF2, cF3, cF4]; rfl) (A_cut (os' := []) (sl := [(2, .cv (.val (.sl (List.map eU ([(u8 (IntKind.u8.wrap (IntKind.i64.wrap ((192 : Int) + (IntKind.i64.wrap (Int.tdiv r (64 : Int))))))), (u8 (IntKind.u8.wrap (IntKind.i64.wrap ((128 : Int) + (Int.tmod r (64 : Int))))))]))))), (3, .cv (.val (.int .i64 (0 : Int))))]) hwf)) ⟨rfl, on_nil hwf⟩))
      · refine w_skip ?_
        refine w_n ?_
        refine w_seq ?_
        refine w_seq ?_
        refine A_region ?_
        refine w_n ?_
        refine A_condH hr (fun cF5 hr => ?_) (fun cF5 hr => ?_)
        · refine w_seq ?_
          refine w_region rfl (by simp (disch := (apply Apart.mk; decide)) only [go_sem, Nat.reduceAdd, Nat.reduceLT, Nat.reduceMul, Nat.reduceLeDiff, Int.reduceToNat, Int.reduceLT, Int.reduceLE, (eq_false (by decide : ¬ ((4096 : Int) = 0))), (eq_false (by decide : ¬ ((64 : Int) = 0))), (eq_false (by decide : ¬ ((64 : Int) = 0))), (eq_false (by decide : ¬ ((64 : Int) = 0))), cF2, cF3, cF4, cF5]; rfl) ?_
          refine w_n ?_
          refine w_ret ?_
          obtain rfl := hD _ hr
          exact (w_tr (A_endR (.fix _ _ (.slot 2) 5 _ (by simp (disch := (apply Apart.mk; decide)) only [go_sem, Nat.reduceAdd, Nat.reduceLT, Nat.reduceMul, Nat.reduceLeDiff, Int.reduceToNat, Int.reduceLT, Int.reduceLE, cF2, cF3, cF4, cF5]; rfl) (A_cut (os' := []) (sl := [(2, .cv (.val (.sl (List.map eU ([(u8 (IntKind.u8.wrap (IntKind.i64.wrap ((224 : Int) + (IntKind.i64.wrap (Int.tdiv r (4096 : Int))))))), (u8 (IntKind.u8.wrap (IntKind.i64.wrap ((128 : Int) + (Int.tmod (IntKind.i64.wrap (Int.tdiv r (64 : Int))) (64 : Int)))))), (u8 (IntKind.u8.wrap (IntKind.i64.wrap ((128 : Int) + (Int.tmod r (64 : Int))))))]))))), (3, .cv (.val (.int .i64 (0 : Int))))]) hwf)) ⟨rfl, on_nil hwf⟩))
        · refine w_skip ?_
          refine w_n ?_
          refine w_seq ?_
          refine w_region rfl (by simp (disch := (apply Apart.mk; decide)) only [go_sem, Nat.reduceAdd, Nat.reduceLT, Nat.reduceMul, Nat.reduceLeDiff, Int.reduceToNat, Int.reduceLT, Int.reduceLE, (eq_false (by decide : ¬ ((262144 : Int) = 0))), (eq_false (by decide : ¬ ((4096 : Int) = 0))), (eq_false (by decide : ¬ ((64 : Int) = 0))), (eq_false (by decide : ¬ ((64 : Int) = 0))), (eq_false (by decide : ¬ ((64 : Int) = 0))), (eq_false (by decide : ¬ ((64 : Int) = 0))), cF2, cF3, cF4, cF5]; rfl) ?_
          refine w_n ?_
          refine w_ret ?_
          obtain rfl := hD _ hr
          exact (A_endR (.fix _ _ (.slot 2) 5 _ (by simp (disch := (apply Apart.mk; decide)) only [go_sem, Nat.reduceAdd, Nat.reduceLT, Nat.reduceMul, Nat.reduceLeDiff, Int.reduceToNat, Int.reduceLT, Int.reduceLE, cF2, cF3, cF4, cF5]; rfl) (A_cut (os' := []) (sl := [(2, .cv (.val (.sl (List.map eU ([(u8 (IntKind.u8.wrap (IntKind.i64.wrap ((240 : Int) + (IntKind.i64.wrap (Int.tdiv r (262144 : Int))))))), (u8 (IntKind.u8.wrap (IntKind.i64.wrap ((128 : Int) + (Int.tmod (IntKind.i64.wrap (Int.tdiv r (4096 : Int))) (64 : Int)))))), (u8 (IntKind.u8.wrap (IntKind.i64.wrap ((128 : Int) + (Int.tmod (IntKind.i64.wrap (Int.tdiv r (64 : Int))) (64 : Int)))))), (u8 (IntKind.u8.wrap (IntKind.i64.wrap ((128 : Int) + (Int.tmod r (64 : Int))))))]))))), (3, .cv (.val (.int .i64 (0 : Int))))]) hwf)) ⟨rfl, on_nil hwf⟩)
end Go.Val

/- part IW85 -/
/- scansion/scansionref01.first runs as it is read off. -/
namespace Go.Val
set_option linter.unusedVariables false
set_option linter.unusedSimpArgs false
set_option maxRecDepth 20000
open Go.Proofs
theorem scansionref01_first_runs (b : List UInt8) {h : Heap} {a : TUnit} (e : scansionref01_first b = some a) :
    Runs CT 85 [.cv (.val (.sl (List.map eU b)))] h fun o h' => o = [.cv (.val (.agg [.int .i64 a.Rune, .int .i64 a.At, .int .i64 a.Width, .bool a.Bad]))] ∧ h' = h := by
  refine Runs.start Try.f85 _ Try.func85 rfl (by rw [Try.ntmps85]; simp) (by rfl) (by rfl) (fun hwf hu => ?_)
  obtain ⟨D, hD, hr⟩ : ∃ D : TUnit → Prop, (∀ z, D z → z = a) ∧ Holds (scansionref01_first b) D := ⟨fun z => z = a, fun _ h => h, Holds.intro e rfl⟩
  dsimp only [scansionref01_first] at hr
  change wpCode _ _ _ _ _ ⟨[(0, .cv (.val (.sl (List.map eU b))))], h.on []⟩
  refine w_seq ?_
  refine A_region ?_
  refine w_n ?_
  refine w_seq ?_
  refine A_region ?_
  refine w_n ?_
  refine w_seq ?_
  refine A_region ?_
  refine w_n ?_
  refine w_seq ?_
  obtain ⟨n, eF1, gF2, hr⟩ := hr.idxK
  refine A_region ?_
  refine w_n ?_
  refine w_seq ?_
  refine w_K (D := D) (fun xX : (Int × Int) => ⟨[(0, .cv (.val (.sl (List.map eU b)))), (2, .cv (.val (.ptr (some (h.n + 0, 0))))), (3, .cv (.val (.int .i64 xX.1))), (4, .cv (.val (.int .i64 xX.2)))], h.on [some (.cells [.val (.int .i64 (0 : Int)), .val (.int .i64 (0 : Int)), .val (.int .i64 (0 : Int)), .val (.bool false)])]⟩) (fun xX : (Int × Int) => scansionref01_first.k1 b xX.1 xX.2) (fun xX s' hr ht => ?_) ?_
  · obtain ⟨r, n1⟩ := xX
    dsimp only [scansionref01_first.k1] at hr ht
    refine (w_nT ht ?_)
    refine w_seq ?_
    refine A_ops ?_
    refine A_upto 1 ?_
    obtain ⟨r1, eF3, hr⟩ := hr.bind
    refine A_call (out := ?o_eF3) (hp := ?p_eF3) ?c_eF3 ?d_eF3 ?_
    case c_eF3 => exact scansionref01_Encode_runs r eF3
    case d_eF3 => rfl
    refine A_ops_end ?_
    refine w_n ?_
    refine w_seq ?_
    obtain ⟨v, vF7, hr⟩ := hr.bind
    refine w_joinR (sj := ⟨[(2, .cv (.val (.ptr (some (h.n + 0, 0))))), (3, .cv (.val (.int .i64 r))), (4, .cv (.val (.int .i64 n1))), (112, .cv (.val (.bool v)))], h.on [some (.cells [.val (.int .i64 (0 : Int)), .val (.int .i64 (0 : Int)), .val (.int .i64 (0 : Int)), .val (.bool false)])]⟩) (w_drawn [0, 1, 2, 3, 4, 5, 6, 7, 8, 9, 10] (by rfl) ?_) ?_
    · have hr := Holds.intro (D := fun z => z = v) vF7 rfl
      refine p_run (l := [0, 1, 2]) (pend' := [2, 1, 0]) (by simp (disch := (apply Apart.mk; decide)) only [go_sem, Nat.reduceAdd, Nat.reduceLT, Nat.reduceMul, Nat.reduceLeDiff, Int.reduceToNat, Int.reduceLT, Int.reduceLE]; rfl) rfl ?_
      rcases hr.ite with ⟨cF4, hr⟩ | ⟨cF4, hr⟩
      · refine p_run (l := [3, 4, 5, 6, 7, 8, 9, 10]) (pend' := [10, 9, 8, 7, 6, 5, 4, 3, 2, 1, 0]) (by simp (disch := (apply Apart.mk; decide)) only [go_sem, Nat.reduceAdd, Nat.reduceLT, Nat.reduceMul, Nat.reduceLeDiff, Int.reduceToNat, Int.reduceLT, Int.reduceLE, cF4]; rfl) rfl ?_
        refine p_end (by simp (disch := (apply Apart.mk; decide)) only [go_sem, Nat.reduceAdd, Nat.reduceLT, Nat.reduceMul, Nat.reduceLeDiff, Int.reduceToNat, Int.reduceLT, Int.reduceLE, cF4]) ?_
        obtain rfl : _ = v := hr
        exact w_k (A_cut hwf)
      · obtain ⟨nF5, nF6, hr⟩ := hr.cutH
        refine p_run (l := [3, 4, 5, 6, 7, 8, 9, 10]) (pend' := [10, 9, 8, 7, 6, 5, 4, 3, 2, 1, 0]) (by simp (disch := (apply Apart.mk; decide)) only [go_sem, Nat.reduceAdd, Nat.reduceLT, Nat.reduceMul, Nat.reduceLeDiff, Int.reduceToNat, Int.reduceLT, Int.reduceLE, cF4, nF5, nF6]; rfl) rfl ?_
        refine p_end (by simp (disch := (apply Apart.mk; decide)) only [go_sem, Nat.reduceAdd, Nat.reduceLT, Nat.reduceMul, Nat.reduceLeDiff, Int.reduceToNat, Int.reduceLT, Int.reduceLE, cF4, nF5, nF6]) ?_
        obtain rfl : _ = v := hr
        exact w_k (A_cut hwf)
    refine A_condH hr (fun cF8 hr => ?_) (fun cF8 hr => ?_)
    · refine w_seq ?_
      refine A_region ?_
      refine w_n ?_
      refine w_ret ?_
      obtain rfl := hD _ hr
      exact (w_tr (w_endRD (A_cut (os' := [some (.cells [.val (.int .i64 (65533 : Int)), .val (.int .i64 (0 : Int)), .val (.int .i64 (1 : Int)), .val (.bool true)])]) (sl := [(2, .cv (.val (.ptr (some (h.n + 0, 0)))))]) hwf) (by simp (disch := (apply Apart.mk; decide)) only [go_sem, Nat.reduceAdd, Nat.reduceLT, Nat.reduceMul, Nat.reduceLeDiff, Int.reduceToNat, Int.reduceLT, Int.reduceLE, Try.results85, results_data CT_gives85, resCell, resVal.eq_2, loadOp_sv, cF8]) (Drops.on (os := [some (.cells [.val (.int .i64 (65533 : Int)), .val (.int .i64 (0 : Int)), .val (.int .i64 (1 : Int)), .val (.bool true)])]) (os' := []) hwf (Nat.le_refl _) (by simp (disch := (apply Apart.mk; decide)) only [go_sem, Nat.reduceAdd, Nat.reduceLT, Nat.reduceMul, Nat.reduceLeDiff, Int.reduceToNat, Int.reduceLT, Int.reduceLE, cF8])) ⟨rfl, on_nil hwf⟩))
    · refine w_skip ?_
      refine w_n ?_
      refine w_seq ?_
      refine A_region ?_
      refine w_n ?_
      refine w_ret ?_
      obtain rfl := hD _ hr
      exact (w_endRD (A_cut (os' := [some (.cells [.val (.int .i64 r), .val (.int .i64 (0 : Int)), .val (.int .i64 n1), .val (.bool false)])]) (sl := [(2, .cv (.val (.ptr (some (h.n + 0, 0)))))]) hwf) (by simp (disch := (apply Apart.mk; decide)) only [go_sem, Nat.reduceAdd, Nat.reduceLT, Nat.reduceMul, Nat.reduceLeDiff, Int.reduceToNat, Int.reduceLT, Int.reduceLE, Try.results85, results_data CT_gives85, resCell, resVal.eq_2, loadOp_sv, cF8]) (Drops.on (os := [some (.cells [.val (.int .i64 r), .val (.int .i64 (0 : Int)), .val (.int .i64 n1), .val (.bool false)])]) (os' := []) hwf (Nat.le_refl _) (by simp (disch := (apply Apart.mk; decide)) only [go_sem, Nat.reduceAdd, Nat.reduceLT, Nat.reduceMul, Nat.reduceLeDiff, Int.reduceToNat, Int.reduceLT, Int.reduceLE, cF8])) ⟨rfl, on_nil hwf⟩)
  · refine w_block ?_
    refine w_seq ?_
    refine A_region ?_
    refine w_n ?_
    refine A_condH hr (fun cF9 hr => ?_) (fun cF9 hr => ?_)
    · refine A_region ?_
      exact (w_bn (w_k ⟨((IntKind.i64.wrap (n.toNat : Int)), (1 : Int)), hr, (A_cut hwf)⟩))
    · refine w_joinR (sj := ⟨[(0, .cv (.val (.sl (List.map eU b)))), (2, .cv (.val (.ptr (some (h.n + 0, 0))))), (3, .cv (.val (.int .i64 (-1 : Int)))), (4, .cv (.val (.int .i64 (1 : Int)))), (5, .cv (.val (.int .u8 (n.toNat : Int)))), (16, .cv (.val (.bool ((decide ((n.toNat : Int) ≥ (192 : Int))) && ((decide ((n.toNat : Int) < (224 : Int))) && (decide ((b.length : Int) ≥ (2 : Int))))))))], h.on [some (.cells [.val (.int .i64 (0 : Int)), .val (.int .i64 (0 : Int)), .val (.int .i64 (0 : Int)), .val (.bool false)])]⟩) (A_ops ?_) ?_
      · refine A_upto 3 ?_
        rcases Bool.eq_false_or_eq_true (decide ((n.toNat : Int) ≥ (192 : Int))) with cF10 | cF10
        · refine A_upto 4 ?_
          rcases Bool.eq_false_or_eq_true (decide ((n.toNat : Int) < (224 : Int))) with cF11 | cF11
          · refine A_ops_end ?_
            exact w_k (A_cut hwf)
          · refine A_ops_end ?_
            exact w_k (A_cut hwf)
        · refine A_ops_end ?_
          exact w_k (A_cut hwf)
      refine A_condH hr (fun cF12 hr => ?_) (fun cF12 hr => ?_)
      · refine w_seq ?_
        refine A_ops ?_
        obtain ⟨n2, eF13, gF14, hr⟩ := hr.idxK
        refine A_upto 7 ?_
        obtain ⟨r2, eF15, hr⟩ := hr.bind
        refine A_call (out := ?o_eF15) (hp := ?p_eF15) ?c_eF15 ?d_eF15 ?_
        case c_eF15 => exact scansionref01_low_runs n2 eF15
        case d_eF15 => rfl
        refine A_ops_end ?_
        refine w_n ?_
        refine A_region ?_
        exact (w_bn (w_k ⟨((IntKind.i64.wrap ((IntKind.i64.wrap ((IntKind.i64.wrap (IntKind.u8.wrap ((n.toNat : Int) - (192 : Int)))) * (64 : Int))) + r2)), (2 : Int)), hr, (A_cut hwf)⟩))
      · refine w_joinR (sj := ⟨[(0, .cv (.val (.sl (List.map eU b)))), (2, .cv (.val (.ptr (some (h.n + 0, 0))))), (3, .cv (.val (.int .i64 (-1 : Int)))), (4, .cv (.val (.int .i64 (1 : Int)))), (5, .cv (.val (.int .u8 (n.toNat : Int)))), (37, .cv (.val (.bool ((decide ((n.toNat : Int) ≥ (224 : Int))) && ((decide ((n.toNat : Int) < (240 : Int))) && (decide ((b.length : Int) ≥ (3 : Int))))))))], h.on [some (.cells [.val (.int .i64 (0 : Int)), .val (.int .i64 (0 : Int)), .val (.int .i64 (0 : Int)), .val (.bool false)])]⟩) (A_ops ?_) ?_
        · refine A_upto 3 ?_
          rcases Bool.eq_false_or_eq_true (decide ((n.toNat : Int) ≥ (224 : Int))) with cF16 | cF16
          · refine A_upto 4 ?_
            rcases Bool.eq_false_or_eq_true (decide ((n.toNat : Int) < (240 : Int))) with cF17 | cF17
            · refine A_ops_end ?_
              exact w_k (A_cut hwf)
            · refine A_ops_end ?_
              exact w_k (A_cut hwf)
          · refine A_ops_end ?_
            exact w_k (A_cut hwf)
        refine A_condH hr (fun cF18 hr => ?_) (fun cF18 hr => ?_)
        · refine w_seq ?_
          refine w_drawn [0, 1, 2, 3, 4, 5, 6, 10, 11, 12, 7, 8, 9, 13, 14, 15] (by rfl) ?_
          obtain ⟨n3, eF19, gF20, hr⟩ := hr.idxK
          obtain ⟨n4, eF21, gF22, hr⟩ := hr.idxK
          refine p_run (l := [0, 1, 2, 3, 4, 5, 6, 10, 11, 12]) (pend' := [12, 11, 10, 6, 5, 4, 3, 2, 1, 0]) (by simp (disch := (apply Apart.mk; decide)) only [go_sem, Nat.reduceAdd, Nat.reduceLT, Nat.reduceMul, Nat.reduceLeDiff, Int.reduceToNat, Int.reduceLT, Int.reduceLE, eF19, gF20, eF21, gF22]; rfl) rfl ?_
          obtain ⟨r3, eF23, hr⟩ := hr.bind
          refine p_call (out := ?o_eF23) (hp := ?p_eF23) (pend' := [12, 11, 10, 3, 2, 1, 0]) rfl (by simp (disch := (apply Apart.mk; decide)) only [go_sem, Nat.reduceAdd, Nat.reduceLT, Nat.reduceMul, Nat.reduceLeDiff, Int.reduceToNat, Int.reduceLT, Int.reduceLE, Option.getD_some, eF19, gF20, eF21, gF22]) rfl (by simp (disch := (apply Apart.mk; decide)) only [go_sem, Nat.reduceAdd, Nat.reduceLT, Nat.reduceMul, Nat.reduceLeDiff, Int.reduceToNat, Int.reduceLT, Int.reduceLE, Option.getD_some, eF19, gF20, eF21, gF22]; rfl) (by simp (disch := (apply Apart.mk; decide)) only [go_sem, Nat.reduceAdd, Nat.reduceLT, Nat.reduceMul, Nat.reduceLeDiff, Int.reduceToNat, Int.reduceLT, Int.reduceLE, Option.getD_some, eF19, gF20, eF21, gF22]; rfl) (by simp (disch := (apply Apart.mk; decide)) only [go_sem, Nat.reduceAdd, Nat.reduceLT, Nat.reduceMul, Nat.reduceLeDiff, Int.reduceToNat, Int.reduceLT, Int.reduceLE, Option.getD_some, eF19, gF20, eF21, gF22]; rfl) (by rfl) ?c_eF23 ?d_eF23 ?_
          case c_eF23 => exact scansionref01_low_runs n3 eF23
          case d_eF23 => rfl
          refine p_run (l := [8, 9]) (pend' := [9, 8, 12, 11, 10, 3, 2, 1, 0]) (by simp (disch := (apply Apart.mk; decide)) only [go_sem, Nat.reduceAdd, Nat.reduceLT, Nat.reduceMul, Nat.reduceLeDiff, Int.reduceToNat, Int.reduceLT, Int.reduceLE, eF19, gF20, eF21, gF22]; rfl) rfl ?_
          obtain ⟨r4, eF24, hr⟩ := hr.bind
          refine p_call (out := ?o_eF24) (hp := ?p_eF24) (pend' := [9, 8, 3, 2, 1, 0]) rfl (by simp (disch := (apply Apart.mk; decide)) only [go_sem, Nat.reduceAdd, Nat.reduceLT, Nat.reduceMul, Nat.reduceLeDiff, Int.reduceToNat, Int.reduceLT, Int.reduceLE, Option.getD_some, eF19, gF20, eF21, gF22]) rfl (by simp (disch := (apply Apart.mk; decide)) only [go_sem, Nat.reduceAdd, Nat.reduceLT, Nat.reduceMul, Nat.reduceLeDiff, Int.reduceToNat, Int.reduceLT, Int.reduceLE, Option.getD_some, eF19, gF20, eF21, gF22]; rfl) (by simp (disch := (apply Apart.mk; decide)) only [go_sem, Nat.reduceAdd, Nat.reduceLT, Nat.reduceMul, Nat.reduceLeDiff, Int.reduceToNat, Int.reduceLT, Int.reduceLE, Option.getD_some, eF19, gF20, eF21, gF22]; rfl) (by simp (disch := (apply Apart.mk; decide)) only [go_sem, Nat.reduceAdd, Nat.reduceLT, Nat.reduceMul, Nat.reduceLeDiff, Int.reduceToNat, Int.reduceLT, Int.reduceLE, Option.getD_some, eF19, gF20, eF21, gF22]; rfl) (by rfl) ?c_eF24 ?d_eF24 ?_
          case c_eF24 => exact scansionref01_low_runs n4 eF24
          case d_eF24 => rfl
          refine p_run (l := [14]) (pend' := [14, 9, 8, 3, 2, 1, 0]) (by simp (disch := (apply Apart.mk; decide)) only [go_sem, Nat.reduceAdd, Nat.reduceLT, Nat.reduceMul, Nat.reduceLeDiff, Int.reduceToNat, Int.reduceLT, Int.reduceLE, eF19, gF20, eF21, gF22]; rfl) rfl ?_
          refine p_op (pend' := []) rfl (by simp (disch := (apply Apart.mk; decide)) only [go_sem, Nat.reduceAdd, Nat.reduceLT, Nat.reduceMul, Nat.reduceLeDiff, Int.reduceToNat, Int.reduceLT, Int.reduceLE, eF19, gF20, eF21, gF22]) (by simp (disch := (apply Apart.mk; decide)) only [go_sem, Nat.reduceAdd, Nat.reduceLT, Nat.reduceMul, Nat.reduceLeDiff, Int.reduceToNat, Int.reduceLT, Int.reduceLE, eF19, gF20, eF21, gF22]; rfl) (by rfl) ?_
          refine p_end (by simp (disch := (apply Apart.mk; decide)) only [go_sem, Nat.reduceAdd, Nat.reduceLT, Nat.reduceMul, Nat.reduceLeDiff, Int.reduceToNat, Int.reduceLT, Int.reduceLE, eF19, gF20, eF21, gF22]) ?_
          refine w_n ?_
          refine A_region ?_
          exact (w_bn (w_k ⟨((IntKind.i64.wrap ((IntKind.i64.wrap ((IntKind.i64.wrap ((IntKind.i64.wrap (IntKind.u8.wrap ((n.toNat : Int) - (224 : Int)))) * (4096 : Int))) + (IntKind.i64.wrap (r3 * (64 : Int))))) + r4)), (3 : Int)), hr, (A_cut hwf)⟩))
        · refine w_joinR (sj := ⟨[(0, .cv (.val (.sl (List.map eU b)))), (2, .cv (.val (.ptr (some (h.n + 0, 0))))), (3, .cv (.val (.int .i64 (-1 : Int)))), (4, .cv (.val (.int .i64 (1 : Int)))), (5, .cv (.val (.int .u8 (n.toNat : Int)))), (64, .cv (.val (.bool ((decide ((n.toNat : Int) ≥ (240 : Int))) && ((decide ((n.toNat : Int) < (248 : Int))) && (decide ((b.length : Int) ≥ (4 : Int))))))))], h.on [some (.cells [.val (.int .i64 (0 : Int)), .val (.int .i64 (0 : Int)), .val (.int .i64 (0 : Int)), .val (.bool false)])]⟩) (A_ops ?_) ?_
          · refine A_upto 3 ?_
            rcases Bool.eq_false_or_eq_true (decide ((n.toNat : Int) ≥ (240 : Int))) with cF25 | cF25
            · refine A_upto 4 ?_
              rcases Bool.eq_false_or_eq_true (decide ((n.toNat : Int) < (248 : Int))) with cF26 | cF26
              · refine A_ops_end ?_
                exact w_k (A_cut hwf)
              · refine A_ops_end ?_
                exact w_k (A_cut hwf)
            · refine A_ops_end ?_
              exact w_k (A_cut hwf)
          refine A_condH hr (fun cF27 hr => ?_) (fun cF27 hr => ?_)
          · refine w_seq ?_
            refine w_drawn [0, 1, 2, 3, 4, 5, 6, 10, 11, 12, 16, 17, 18, 7, 8, 9, 13, 14, 15, 19, 20, 21] (by rfl) ?_
            obtain ⟨n5, eF28, gF29, hr⟩ := hr.idxK
            obtain ⟨n6, eF30, gF31, hr⟩ := hr.idxK
            obtain ⟨n7, eF32, gF33, hr⟩ := hr.idxK
            refine p_run (l := [0, 1, 2, 3, 4, 5, 6, 10, 11, 12, 16, 17, 18]) (pend' := [18, 17, 16, 12, 11, 10, 6, 5, 4, 3, 2, 1, 0]) (by simp (disch := (apply Apart.mk; decide)) only [go_sem, Nat.reduceAdd, Nat.reduceLT, Nat.reduceMul, Nat.reduceLeDiff, Int.reduceToNat, Int.reduceLT, Int.reduceLE, eF28, gF29, eF30, gF31, eF32, gF33]; rfl) rfl ?_
            obtain ⟨r5, eF34, hr⟩ := hr.bind
            refine p_call (out := ?o_eF34) (hp := ?p_eF34) (pend' := [18, 17, 16, 12, 11, 10, 3, 2, 1, 0]) rfl (by simp (disch := (apply Apart.mk; decide)) only [go_sem, Nat.reduceAdd, Nat.reduceLT, Nat.reduceMul, Nat.reduceLeDiff, Int.reduceToNat, Int.reduceLT, Int.reduceLE, Option.getD_some, eF28, gF29, eF30, gF31, eF32, gF33]) rfl (by simp (disch := (apply Apart.mk; decide)) only [go_sem, Nat.reduceAdd, Nat.reduceLT, Nat.reduceMul, Nat.reduceLeDiff, Int.reduceToNat, Int.reduceLT, Int.reduceLE, Option.getD_some, eF28, gF29, eF30, gF31, eF32, gF33]; rfl) (by simp (disch := (apply Apart.mk; decide)) only [go_sem, Nat.reduceAdd, Nat.reduceLT, Nat.reduceMul, Nat.reduceLeDiff, Int.reduceToNat, Int.reduceLT, Int.reduceLE, Option.getD_some, eF28, gF29, eF30, gF31, eF32, gF33]; rfl) (by simp (disch := (apply Apart.mk; decide)) only [go_sem, Nat.reduceAdd, Nat.reduceLT, Nat.reduceMul, Nat.reduceLeDiff, Int.reduceToNat, Int.reduceLT, Int.reduceLE, Option.getD_some, eF28, gF29, eF30, gF31, eF32, gF33]; rfl) (by rfl) ?c_eF34 ?d_eF34 ?_
            case c_eF34 => exact scansionref01_low_runs n5 eF34
            case d_eF34 => rfl
            refine p_run (l := [8, 9]) (pend' := [9, 8, 18, 17, 16, 12, 11, 10, 3, 2, 1, 0]) (by simp (disch := (apply Apart.mk; decide)) only [go_sem, Nat.reduceAdd, Nat.reduceLT, Nat.reduceMul, Nat.reduceLeDiff, Int.reduceToNat, Int.reduceLT, Int.reduceLE, eF28, gF29, eF30, gF31, eF32, gF33]; rfl) rfl ?_
            obtain ⟨r6, eF35, hr⟩ := hr.bind
            refine p_call (out := ?o_eF35) (hp := ?p_eF35) (pend' := [9, 8, 18, 17, 16, 3, 2, 1, 0]) rfl (by simp (disch := (apply Apart.mk; decide)) only [go_sem, Nat.reduceAdd, Nat.reduceLT, Nat.reduceMul, Nat.reduceLeDiff, Int.reduceToNat, Int.reduceLT, Int.reduceLE, Option.getD_some, eF28, gF29, eF30, gF31, eF32, gF33]) rfl (by simp (disch := (apply Apart.mk; decide)) only [go_sem, Nat.reduceAdd, Nat.reduceLT, Nat.reduceMul, Nat.reduceLeDiff, Int.reduceToNat, Int.reduceLT, Int.reduceLE, Option.getD_some, eF28, gF29, eF30, gF31, eF32, gF33]; rfl) (by simp (disch := (apply Apart.mk; decide)) only [go_sem, Nat.reduceAdd, Nat.reduceLT, Nat.reduceMul, Nat.reduceLeDiff, Int.reduceToNat, Int.reduceLT, Int.reduceLE, Option.getD_some, eF28, gF29, eF30, gF31, eF32, gF33]; rfl) (by simp (disch := (apply Apart.mk; decide)) only [go_sem, Nat.reduceAdd, Nat.reduceLT, Nat.reduceMul, Nat.reduceLeDiff, Int.reduceToNat, Int.reduceLT, Int.reduceLE, Option.getD_some, eF28, gF29, eF30, gF31, eF32, gF33]; rfl) (by rfl) ?c_eF35 ?d_eF35 ?_
            case c_eF35 => exact scansionref01_low_runs n6 eF35
            case d_eF35 => rfl
            refine p_run (l := [14, 15]) (pend' := [15, 14, 9, 8, 18, 17, 16, 3, 2, 1, 0]) (by simp (disch := (apply Apart.mk; decide)) only [go_sem, Nat.reduceAdd, Nat.reduceLT, Nat.reduceMul, Nat.reduceLeDiff, Int.reduceToNat, Int.reduceLT, Int.reduceLE, eF28, gF29, eF30, gF31, eF32, gF33]; rfl) rfl ?_
            obtain ⟨r7, eF36, hr⟩ := hr.bind
            refine p_call (out := ?o_eF36) (hp := ?p_eF36) (pend' := [15, 14, 9, 8, 3, 2, 1, 0]) rfl (by simp (disch := (apply Apart.mk; decide)) only [go_sem, Nat.reduceAdd, Nat.reduceLT, Nat.reduceMul, Nat.reduceLeDiff, Int.reduceToNat, Int.reduceLT, Int.reduceLE, Option.getD_some, eF28, gF29, eF30, gF31, eF32, gF33]) rfl (by simp (disch := (apply Apart.mk; decide)) only [go_sem, Nat.reduceAdd, Nat.reduceLT, Nat.reduceMul, Nat.reduceLeDiff, Int.reduceToNat, Int.reduceLT, Int.reduceLE, Option.getD_some, eF28, gF29, eF30, gF31, eF32, gF33]; rfl) (by simp (disch := (apply Apart.mk; decide)) only [go_sem, Nat.reduceAdd, Nat.reduceLT, Nat.reduceMul, Nat.reduceLeDiff, Int.reduceToNat, Int.reduceLT, Int.reduceLE, Option.getD_some, eF28, gF29, eF30, gF31, eF32, gF33]; rfl) (by simp (disch := (apply Apart.mk; decide)) only [go_sem, Nat.reduceAdd, Nat.reduceLT, Nat.reduceMul, Nat.reduceLeDiff, Int.reduceToNat, Int.reduceLT, Int.reduceLE, Option.getD_some, eF28, gF29, eF30, gF31, eF32, gF33]; rfl) (by rfl) ?c_eF36 ?d_eF36 ?_
            case c_eF36 => exact scansionref01_low_runs n7 eF36
            case d_eF36 => rfl
            refine p_run (l := [20]) (pend' := [20, 15, 14, 9, 8, 3, 2, 1, 0]) (by simp (disch := (apply Apart.mk; decide)) only [go_sem, Nat.reduceAdd, Nat.reduceLT, Nat.reduceMul, Nat.reduceLeDiff, Int.reduceToNat, Int.reduceLT, Int.reduceLE, eF28, gF29, eF30, gF31, eF32, gF33]; rfl) rfl ?_
            refine p_op (pend' := []) rfl (by simp (disch := (apply Apart.mk; decide)) only [go_sem, Nat.reduceAdd, Nat.reduceLT, Nat.reduceMul, Nat.reduceLeDiff, Int.reduceToNat, Int.reduceLT, Int.reduceLE, eF28, gF29, eF30, gF31, eF32, gF33]) (by simp (disch := (apply Apart.mk; decide)) only [go_sem, Nat.reduceAdd, Nat.reduceLT, Nat.reduceMul, Nat.reduceLeDiff, Int.reduceToNat, Int.reduceLT, Int.reduceLE, eF28, gF29, eF30, gF31, eF32, gF33]; rfl) (by rfl) ?_
            refine p_end (by simp (disch := (apply Apart.mk; decide)) only [go_sem, Nat.reduceAdd, Nat.reduceLT, Nat.reduceMul, Nat.reduceLeDiff, Int.reduceToNat, Int.reduceLT, Int.reduceLE, eF28, gF29, eF30, gF31, eF32, gF33]) ?_
            refine w_n ?_
            refine A_region ?_
            exact (w_bn (w_k ⟨((IntKind.i64.wrap ((IntKind.i64.wrap ((IntKind.i64.wrap ((IntKind.i64.wrap ((IntKind.i64.wrap (IntKind.u8.wrap ((n.toNat : Int) - (240 : Int)))) * (262144 : Int))) + (IntKind.i64.wrap (r5 * (4096 : Int))))) + (IntKind.i64.wrap (r6 * (64 : Int))))) + r7)), (4 : Int)), hr, (A_cut hwf)⟩))
          · refine w_skip ?_
            exact (w_bn (w_k ⟨((-1 : Int), (1 : Int)), hr, (A_cut hwf)⟩))
end Go.Val

/- part IW47 -/
/- scansion/scansionref01.Decode runs as it is read off. -/
namespace Go.Val
set_option linter.unusedVariables false
set_option linter.unusedSimpArgs false
set_option maxRecDepth 20000
open Go.Proofs
theorem scansionref01_Decode_runs (b : List UInt8) {h : Heap} {a : List TUnit} (e : scansionref01_Decode b = some a) :
    Runs CT 47 [.cv (.val (.sl (List.map eU b)))] h fun o h' => o = [.cv (.val (.sl (List.map eUnit a)))] ∧ h' = h := by
  refine Runs.start Try.f47 _ Try.func47 rfl (by rw [Try.ntmps47]; simp) (by rfl) (by rfl) (fun hwf hu => ?_)
  obtain ⟨D, hD, hr⟩ : ∃ D : List TUnit → Prop, (∀ z, D z → z = a) ∧ Holds (scansionref01_Decode b) D := ⟨fun z => z = a, fun _ h => h, Holds.intro e rfl⟩
  dsimp only [scansionref01_Decode] at hr
  change wpCode _ _ _ _ _ ⟨[(0, .cv (.val (.sl (List.map eU b))))], h.on []⟩
  refine w_seq ?_
  refine A_region ?_
  refine w_n ?_
  refine w_seq ?_
  refine A_region ?_
  refine w_n ?_
  refine w_seq ?_
  refine A_region ?_
  refine w_n ?_
  refine w_seq ?_
  refine w_K (D := D) (fun xX : List TUnit => ⟨[(3, .cv (.row 75 (List.map eUnit xX)))], h.on []⟩) (fun xX : List TUnit => scansionref01_Decode.k1 xX) (fun xX s' hr ht => ?_) ?_
  · obtain ⟨out, rfl⟩ : ∃ z, z = xX := ⟨xX, rfl⟩
    dsimp only [scansionref01_Decode.k1] at hr ht
    refine (w_nT ht ?_)
    refine w_seq ?_
    refine A_region ?_
    refine w_n ?_
    refine w_ret ?_
    obtain rfl := hD _ hr
    exact (A_endR (.fix _ _ (.slot 2) 75 _ (by simp (disch := (apply Apart.mk; decide)) only [go_sem, Nat.reduceAdd, Nat.reduceLT, Nat.reduceMul, Nat.reduceLeDiff, Int.reduceToNat, Int.reduceLT, Int.reduceLE]; rfl) (A_cut (os' := []) (sl := [(2, .cv (.val (.sl (List.map eUnit out))))]) hwf)) ⟨rfl, on_nil hwf⟩)
  · refine w_block ?_
    refine w_Loop (fun xX : (List TUnit × Int) => ⟨[(0, .cv (.val (.sl (List.map eU b)))), (3, .cv (.row 75 (List.map eUnit xX.1))), (4, .cv (.val (.int .i64 xX.2)))], h.on []⟩) hr (A_cut hwf) (fun W1 xX hr => ?_)
    obtain ⟨out1, at_⟩ := xX
    dsimp only [scansionref01_Decode.b1] at hr
    refine w_seq ?_
    refine w_seq ?_
    refine A_region ?_
    refine w_n ?_
    refine A_condH hr (fun cF1 hr => ?_) (fun cF1 hr => ?_)
    · refine w_skip ?_
      refine w_n ?_
      refine w_block ?_
      refine w_seq ?_
      refine A_ops ?_
      obtain ⟨nF2, nF3, hr⟩ := hr.cutL
      refine A_upto 3 ?_
      obtain ⟨r, eF4, hr⟩ := hr.bind
      refine A_call (out := ?o_eF4) (hp := ?p_eF4) ?c_eF4 ?d_eF4 ?_
      case c_eF4 => exact scansionref01_first_runs (List.drop (Int.toNat at_) b) eF4
      case d_eF4 => rfl
      refine A_ops_end ?_
      refine w_n ?_
      refine w_seq ?_
      refine A_region ?_
      refine w_n ?_
      refine w_seq ?_
      obtain ⟨nF5, hr⟩ := hr.room
      refine A_region ?_
      refine w_n ?_
      refine A_region ?_
      exact (w_bn (w_k ⟨((out1 ++ ([(TUnit.mk r.Rune at_ r.Width r.Bad)])), (IntKind.i64.wrap (at_ + r.Width))), hr, (A_cut hwf)⟩))
    · refine w_exit ?_
      exact (w_te (w_te (w_bx (w_k ⟨out1, (hr).map, (A_cut hwf)⟩))))
end Go.Val

/- part IW48 -/
/- scansion/scansionref07.blank runs as it is read off. -/
namespace Go.Val
set_option linter.unusedVariables false
set_option linter.unusedSimpArgs false
set_option maxRecDepth 20000
open Go.Proofs
theorem scansionref07_blank_runs (l : List TUnit) (i : Int) {h : Heap} {a : Int} (e : scansionref07_blank l i = some a) :
    Runs CT 48 [.cv (.val (.sl (List.map eUnit l))), .cv (.val (.int .i64 i))] h fun o h' => o = [.cv (.val (.int .i64 a))] ∧ h' = h := by
  refine Runs.start Try.f48 _ Try.func48 rfl (by rw [Try.ntmps48]; simp) (by rfl) (by rfl) (fun hwf hu => ?_)
  obtain ⟨D, hD, hr⟩ : ∃ D : Int → Prop, (∀ z, D z → z = a) ∧ Holds (scansionref07_blank l i) D := ⟨fun z => z = a, fun _ h => h, Holds.intro e rfl⟩
  dsimp only [scansionref07_blank] at hr
  change wpCode _ _ _ _ _ ⟨[(0, .cv (.val (.sl (List.map eUnit l)))), (1, .cv (.val (.int .i64 i)))], h.on []⟩
  refine w_seq ?_
  refine A_region ?_
  refine w_n ?_
  refine w_seq ?_
  refine w_K (D := D) (fun xX : Int => ⟨[(1, .cv (.val (.int .i64 xX)))], h.on []⟩) (fun xX : Int => scansionref07_blank.k1 xX) (fun xX s' hr ht => ?_) ?_
  · obtain ⟨i1, rfl⟩ : ∃ z, z = xX := ⟨xX, rfl⟩
    dsimp only [scansionref07_blank.k1] at hr ht
    refine (w_nT ht ?_)
    refine w_seq ?_
    refine A_region ?_
    refine w_n ?_
    refine w_ret ?_
    obtain rfl := hD _ hr
    exact (A_endR (A_cut (os' := []) (sl := [(4, .cv (.val (.int .i64 i1)))]) hwf) ⟨rfl, on_nil hwf⟩)
  · refine w_block ?_
    refine w_Loop (fun xX : Int => ⟨[(0, .cv (.val (.sl (List.map eUnit l)))), (1, .cv (.val (.int .i64 xX)))], h.on []⟩) hr (A_cut hwf) (fun W1 xX hr => ?_)
    obtain ⟨i2, rfl⟩ : ∃ z, z = xX := ⟨xX, rfl⟩
    dsimp only [scansionref07_blank.b1] at hr
    refine w_seq ?_
    refine w_seq ?_
    refine A_region ?_
    refine w_n ?_
    refine A_condH hr (fun cF1 hr => ?_) (fun cF1 hr => ?_)
    · refine w_skip ?_
      refine w_n ?_
      refine w_K (D := (Aft W1 D)) (fun xX : Int => ⟨[(0, .cv (.val (.sl (List.map eUnit l)))), (1, .cv (.val (.int .i64 xX)))], h.on []⟩) (fun xX : Int => scansionref07_blank.k2 xX) (fun xX s' hr ht => ?_) ?_
      · obtain ⟨i3, rfl⟩ : ∃ z, z = xX := ⟨xX, rfl⟩
        dsimp only [scansionref07_blank.k2] at hr ht
        exact (w_k ⟨i3, hr, (To.trans ht (A_cut hwf))⟩)
      · refine w_block ?_
        refine w_seq ?_
        obtain ⟨x, nF2, eF3, gF4, hr⟩ := hr.idx
        refine A_region ?_
        refine w_n ?_
        refine w_seq ?_
        refine w_seq ?_
        refine A_region ?_
        refine w_n ?_
        refine w_K (D := (Aft W1 D)) (fun xX : Unit => ⟨[(0, .cv (.val (.sl (List.map eUnit l)))), (1, .cv (.val (.int .i64 i2))), (5, .cv (.val (.int .i64 x.Rune)))], h.on []⟩) (fun xX : Unit => scansionref07_blank.k3 i2 x) (fun xX s' hr ht => ?_) ?_
        · dsimp only [scansionref07_blank.k3] at hr ht
          refine (w_nT ht ?_)
          refine w_seq ?_
          refine w_joinR (sj := ⟨[(0, .cv (.val (.sl (List.map eUnit l)))), (1, .cv (.val (.int .i64 i2))), (64, .cv (.val (.bool ((x.Rune != (32 : Int)) && ((x.Rune != (9 : Int)) && ((x.Rune != (10 : Int)) && (x.Rune != (13 : Int))))))))], h.on []⟩) (A_ops ?_) ?_
          · refine A_upto 3 ?_
            rcases Bool.eq_false_or_eq_true (x.Rune != (32 : Int)) with cF5 | cF5
            · refine A_upto 4 ?_
              rcases Bool.eq_false_or_eq_true (x.Rune != (9 : Int)) with cF6 | cF6
              · refine A_upto 4 ?_
                rcases Bool.eq_false_or_eq_true (x.Rune != (10 : Int)) with cF7 | cF7
                · refine A_ops_end ?_
                  exact w_k (A_cut hwf)
                · refine A_ops_end ?_
                  exact w_k (A_cut hwf)
              · refine A_ops_end ?_
                exact w_k (A_cut hwf)
            · refine A_ops_end ?_
              exact w_k (A_cut hwf)
          refine A_condH hr (fun cF8 hr => ?_) (fun cF8 hr => ?_)
          · refine w_seq ?_
            refine A_region ?_
            refine w_n ?_
            refine w_ret ?_
            obtain rfl := hD _ hr
            exact (w_tr (w_br (w_tr (w_tr (w_br (w_tr (w_tr (A_endR (A_cut (os' := []) (sl := [(4, .cv (.val (.int .i64 i2)))]) hwf) ⟨rfl, on_nil hwf⟩))))))))
          · refine w_skip ?_
            refine w_n ?_
            refine A_region ?_
            exact (w_bn (w_k ⟨(IntKind.i64.wrap (i2 + (1 : Int))), hr, (A_cut hwf)⟩))
        · refine A_condH hr (fun cF9 hr => ?_) (fun cF9 hr => ?_)
          · refine w_seq ?_
            refine w_K (D := (Aft W1 D)) (fun xX : Int => ⟨[(0, .cv (.val (.sl (List.map eUnit l)))), (1, .cv (.val (.int .i64 xX)))], h.on []⟩) (fun xX : Int => scansionref07_blank.k4 l xX) (fun xX s' hr ht => ?_) ?_
            · obtain ⟨i4, rfl⟩ : ∃ z, z = xX := ⟨xX, rfl⟩
              dsimp only [scansionref07_blank.k4] at hr ht
              refine (w_nT ht ?_)
              refine w_seq ?_
              obtain ⟨v1, vF14, hr⟩ := hr.bind
              refine w_joinR (sj := ⟨[(0, .cv (.val (.sl (List.map eUnit l)))), (1, .cv (.val (.int .i64 i4))), (49, .cv (.val (.bool v1)))], h.on []⟩) (A_ops ?_) ?_
              · have hr := Holds.intro (D := fun z => z = v1) vF14 rfl
                refine A_upto 5 ?_
                rcases hr.ite with ⟨cF10, hr⟩ | ⟨cF10, hr⟩
                · obtain ⟨x1, nF11, eF12, gF13, hr⟩ := hr.idx
                  refine A_ops_end ?_
                  obtain rfl : _ = v1 := hr
                  exact w_k (A_cut hwf)
                · refine A_ops_end ?_
                  obtain rfl : _ = v1 := hr
                  exact w_k (A_cut hwf)
              refine A_condH hr (fun cF15 hr => ?_) (fun cF15 hr => ?_)
              · refine w_seq ?_
                refine A_region ?_
                refine w_n ?_
                refine w_ret ?_
                obtain rfl := hD _ hr
                exact (w_tr (w_tr (w_tr (w_br (w_tr (w_tr (w_br (w_tr (w_tr (A_endR (A_cut (os' := []) (sl := [(4, .cv (.val (.int .i64 i4)))]) hwf) ⟨rfl, on_nil hwf⟩))))))))))
              · refine w_skip ?_
                refine w_n ?_
                refine w_exit ?_
                exact (w_te (w_te (w_bx (w_k ⟨i4, hr, (A_cut hwf)⟩))))
            · refine w_block ?_
              refine w_Loop (fun xX : Int => ⟨[(0, .cv (.val (.sl (List.map eUnit l)))), (1, .cv (.val (.int .i64 xX)))], h.on []⟩) hr (A_cut hwf) (fun W2 xX hr => ?_)
              obtain ⟨i5, rfl⟩ : ∃ z, z = xX := ⟨xX, rfl⟩
              dsimp only [scansionref07_blank.b2] at hr
              refine w_seq ?_
              obtain ⟨v2, vF21, hr⟩ := hr.bind
              refine w_joinR (sj := ⟨[(0, .cv (.val (.sl (List.map eUnit l)))), (1, .cv (.val (.int .i64 i5))), (36, .cv (.val (.bool v2)))], h.on []⟩) (A_ops ?_) ?_
              · have hr := Holds.intro (D := fun z => z = v2) vF21 rfl
                refine A_upto 5 ?_
                rcases hr.ite with ⟨cF16, hr⟩ | ⟨cF16, hr⟩
                · obtain ⟨x2, nF17, eF18, gF19, hr⟩ := hr.idx
                  refine A_upto 8 ?_
                  rcases hr.ite with ⟨cF20, hr⟩ | ⟨cF20, hr⟩
                  · refine A_ops_end ?_
                    obtain rfl : _ = v2 := hr
                    exact w_k (A_cut hwf)
                  · refine A_ops_end ?_
                    obtain rfl : _ = v2 := hr
                    exact w_k (A_cut hwf)
                · refine A_ops_end ?_
                  obtain rfl : _ = v2 := hr
                  exact w_k (A_cut hwf)
              refine A_condH hr (fun cF22 hr => ?_) (fun cF22 hr => ?_)
              · refine w_skip ?_
                refine w_n ?_
                refine w_block ?_
                refine A_region ?_
                exact (w_bn (w_k ⟨(IntKind.i64.wrap (i5 + (1 : Int))), hr, (A_cut hwf)⟩))
              · refine w_exit ?_
                exact (w_te (w_te (w_bx (w_k ⟨i5, (hr).map, (A_cut hwf)⟩))))
          · refine w_skip ?_
            exact (w_k ⟨(), hr, (A_cut hwf)⟩)
    · refine w_exit ?_
      exact (w_te (w_te (w_bx (w_k ⟨i2, (hr).map, (A_cut hwf)⟩))))
end Go.Val

/- part IW49 -/
/- scansion/scansionref07.lower runs as it is read off. -/
namespace Go.Val
set_option linter.unusedVariables false
set_option linter.unusedSimpArgs false
set_option maxRecDepth 20000
open Go.Proofs
theorem scansionref07_lower_runs (r : Int) {h : Heap} {a : Bool} (e : scansionref07_lower r = some a) :
    Runs CT 49 [.cv (.val (.int .i64 r))] h fun o h' => o = [.cv (.val (.bool a))] ∧ h' = h := by
  refine Runs.start Try.f49 _ Try.func49 rfl (by rw [Try.ntmps49]; simp) (by rfl) (by rfl) (fun hwf hu => ?_)
  obtain ⟨D, hD, hr⟩ : ∃ D : Bool → Prop, (∀ z, D z → z = a) ∧ Holds (scansionref07_lower r) D := ⟨fun z => z = a, fun _ h => h, Holds.intro e rfl⟩
  dsimp only [scansionref07_lower] at hr
  change wpCode _ _ _ _ _ ⟨[(0, .cv (.val (.int .i64 r)))], h.on []⟩
  refine w_seq ?_
  refine A_region ?_
  refine w_n ?_
  refine w_joinR (sj := ⟨[(2, .cv (.val (.bool ((decide (r ≥ (97 : Int))) && (decide (r ≤ (122 : Int)))))))], h.on []⟩) (A_ops ?_) ?_
  · refine A_upto 3 ?_
    rcases Bool.eq_false_or_eq_true (decide (r ≥ (97 : Int))) with cF1 | cF1
    · refine A_ops_end ?_
      exact w_k (A_cut hwf)
    · refine A_ops_end ?_
      exact w_k (A_cut hwf)
  refine w_ret ?_
  obtain rfl := hD _ hr
  exact (A_endR (A_cut (os' := []) (sl := [(2, .cv (.val (.bool ((decide (r ≥ (97 : Int))) && (decide (r ≤ (122 : Int)))))))]) hwf) ⟨rfl, on_nil hwf⟩)
end Go.Val

/- part IW50 -/
/- scansion/scansionref07.goes runs as it is read off. -/
namespace Go.Val
set_option linter.unusedVariables false
set_option linter.unusedSimpArgs false
set_option maxRecDepth 20000
open Go.Proofs
theorem scansionref07_goes_runs (r : Int) {h : Heap} {a : Bool} (e : scansionref07_goes r = some a) :
    Runs CT 50 [.cv (.val (.int .i64 r))] h fun o h' => o = [.cv (.val (.bool a))] ∧ h' = h := by
  refine Runs.start Try.f50 _ Try.func50 rfl (by rw [Try.ntmps50]; simp) (by rfl) (by rfl) (fun hwf hu => ?_)
  obtain ⟨D, hD, hr⟩ : ∃ D : Bool → Prop, (∀ z, D z → z = a) ∧ Holds (scansionref07_goes r) D := ⟨fun z => z = a, fun _ h => h, Holds.intro e rfl⟩
  dsimp only [scansionref07_goes] at hr
  change wpCode _ _ _ _ _ ⟨[(0, .cv (.val (.int .i64 r)))], h.on []⟩
  refine w_seq ?_
  refine A_region ?_
  refine w_n ?_
  obtain ⟨v, vF5, hr⟩ := hr.bind
  refine w_joinR (sj := ⟨[(2, .cv (.val (.bool v)))], h.on []⟩) (A_ops ?_) ?_
  · have hr := Holds.intro (D := fun z => z = v) vF5 rfl
    refine A_upto 1 ?_
    obtain ⟨r1, eF1, hr⟩ := hr.bind
    refine A_call (out := ?o_eF1) (hp := ?p_eF1) ?c_eF1 ?d_eF1 ?_
    case c_eF1 => exact scansionref07_lower_runs r eF1
    case d_eF1 => rfl
    refine A_upto 1 ?_
    rcases hr.ite with ⟨cF2, hr⟩ | ⟨cF2, hr⟩
    · refine A_ops_end ?_
      obtain rfl : _ = v := hr
      exact w_k (A_cut hwf)
    · refine A_upto 3 ?_
      rcases hr.ite with ⟨cF3, hr⟩ | ⟨cF3, hr⟩
      · refine A_upto 5 ?_
        rcases hr.ite with ⟨cF4, hr⟩ | ⟨cF4, hr⟩
        · refine A_ops_end ?_
          obtain rfl : _ = v := hr
          exact w_k (A_cut hwf)
        · refine A_ops_end ?_
          obtain rfl : _ = v := hr
          exact w_k (A_cut hwf)
      · refine A_ops_end ?_
        obtain rfl : _ = v := hr
        exact w_k (A_cut hwf)
  refine w_ret ?_
  obtain rfl := hD _ hr
  exact (A_endR (A_cut (os' := []) (sl := [(2, .cv (.val (.bool v)))]) hwf) ⟨rfl, on_nil hwf⟩)
end Go.Val

/- part IW51 -/
/- scansion/scansionref07.at runs as it is read off. -/
namespace Go.Val
set_option linter.unusedVariables false
set_option linter.unusedSimpArgs false
set_option maxRecDepth 20000
open Go.Proofs
theorem scansionref07_at_runs (l : List TUnit) (i : Int) {h : Heap} {a : Int} (e : scansionref07_at l i = some a) :
    Runs CT 51 [.cv (.val (.sl (List.map eUnit l))), .cv (.val (.int .i64 i))] h fun o h' => o = [.cv (.val (.int .i64 a))] ∧ h' = h := by
  refine Runs.start Try.f51 _ Try.func51 rfl (by rw [Try.ntmps51]; simp) (by rfl) (by rfl) (fun hwf hu => ?_)
  obtain ⟨D, hD, hr⟩ : ∃ D : Int → Prop, (∀ z, D z → z = a) ∧ Holds (scansionref07_at l i) D := ⟨fun z => z = a, fun _ h => h, Holds.intro e rfl⟩
  dsimp only [scansionref07_at] at hr
  change wpCode _ _ _ _ _ ⟨[(0, .cv (.val (.sl (List.map eUnit l)))), (1, .cv (.val (.int .i64 i)))], h.on []⟩
  refine w_seq ?_
  refine A_region ?_
  refine w_n ?_
  refine w_seq ?_
  refine w_seq ?_
  refine A_region ?_
  refine w_n ?_
  refine A_condH hr (fun cF1 hr => ?_) (fun cF1 hr => ?_)
  · refine w_seq ?_
    obtain ⟨x, nF2, eF3, gF4, hr⟩ := hr.idx
    refine A_region ?_
    refine w_n ?_
    refine w_ret ?_
    obtain rfl := hD _ hr
    exact (w_tr (A_endR (A_cut (os' := []) (sl := [(4, .cv (.val (.int .i64 x.At)))]) hwf) ⟨rfl, on_nil hwf⟩))
  · refine w_skip ?_
    refine w_n ?_
    refine w_seq ?_
    refine w_seq ?_
    refine A_region ?_
    refine w_n ?_
    refine A_condH hr (fun cF5 hr => ?_) (fun cF5 hr => ?_)
    · refine w_seq ?_
      refine A_region ?_
      refine w_n ?_
      refine w_ret ?_
      obtain rfl := hD _ hr
      exact (w_tr (A_endR (A_cut (os' := []) (sl := [(4, .cv (.val (.int .i64 (0 : Int))))]) hwf) ⟨rfl, on_nil hwf⟩))
    · refine w_skip ?_
      refine w_n ?_
      refine w_seq ?_
      refine w_drawn [0, 1, 2, 3, 4, 5, 6, 7, 8, 9, 10, 11, 12, 13, 14, 15] (by rfl) ?_
      obtain ⟨x1, nF6, eF7, gF8, hr⟩ := hr.idx
      refine p_run (l := [0, 1, 2, 3, 4, 5, 6, 7, 8, 9, 10, 11, 12, 13, 14]) (pend' := [14, 13, 12, 11, 10, 9, 8, 7, 6, 5, 4, 3, 2, 1, 0]) (by simp (disch := (apply Apart.mk; decide)) only [go_sem, Nat.reduceAdd, Nat.reduceLT, Nat.reduceMul, Nat.reduceLeDiff, Int.reduceToNat, Int.reduceLT, Int.reduceLE, nF6, eF7, gF8]; rfl) rfl ?_
      refine p_op (pend' := []) rfl (by simp (disch := (apply Apart.mk; decide)) only [go_sem, Nat.reduceAdd, Nat.reduceLT, Nat.reduceMul, Nat.reduceLeDiff, Int.reduceToNat, Int.reduceLT, Int.reduceLE, nF6, eF7, gF8]) (by simp (disch := (apply Apart.mk; decide)) only [go_sem, Nat.reduceAdd, Nat.reduceLT, Nat.reduceMul, Nat.reduceLeDiff, Int.reduceToNat, Int.reduceLT, Int.reduceLE, nF6, eF7, gF8]; rfl) (by rfl) ?_
      refine p_end (by simp (disch := (apply Apart.mk; decide)) only [go_sem, Nat.reduceAdd, Nat.reduceLT, Nat.reduceMul, Nat.reduceLeDiff, Int.reduceToNat, Int.reduceLT, Int.reduceLE, nF6, eF7, gF8, nF6, eF7, gF8]) ?_
      refine w_n ?_
      refine w_ret ?_
      obtain rfl := hD _ hr
      exact (A_endR (A_cut (os' := []) (sl := [(4, .cv (.val (.int .i64 (IntKind.i64.wrap (x1.At + x1.Width)))))]) hwf) ⟨rfl, on_nil hwf⟩)
end Go.Val

/- part IW118 -/
/- scansion/scansionref02.rising runs as it is read off. -/
namespace Go.Val
set_option linter.unusedVariables false
set_option linter.unusedSimpArgs false
set_option maxRecDepth 20000
open Go.Proofs
theorem scansionref02_rising_runs (l : List Int) (n : Int) {h : Heap} {a : List Int} (e : scansionref02_rising l n = some a) :
    Runs CT 118 [.cv (.val (.sl (List.map eI l))), .cv (.val (.int .i64 n))] h fun o h' => o = [.cv (.val (.sl (List.map eI a)))] ∧ h' = h := by
  refine Runs.start Try.f118 _ Try.func118 rfl (by rw [Try.ntmps118]; simp) (by rfl) (by rfl) (fun hwf hu => ?_)
  obtain ⟨D, hD, hr⟩ : ∃ D : List Int → Prop, (∀ z, D z → z = a) ∧ Holds (scansionref02_rising l n) D := ⟨fun z => z = a, fun _ h => h, Holds.intro e rfl⟩
  dsimp only [scansionref02_rising] at hr
  change wpCode _ _ _ _ _ ⟨[(0, .cv (.val (.sl (List.map eI l)))), (1, .cv (.val (.int .i64 n)))], h.on []⟩
  refine w_seq ?_
  refine A_region ?_
  refine w_n ?_
  refine w_seq ?_
  refine A_region ?_
  refine w_n ?_
  refine w_seq ?_
  refine w_K (D := D) (fun xX : Int => ⟨[(0, .cv (.val (.sl (List.map eI l)))), (1, .cv (.val (.int .i64 n))), (5, .cv (.val (.int .i64 xX)))], h.on []⟩) (fun xX : Int => scansionref02_rising.k1 l n xX) (fun xX s' hr ht => ?_) ?_
  · obtain ⟨at_, rfl⟩ : ∃ z, z = xX := ⟨xX, rfl⟩
    dsimp only [scansionref02_rising.k1] at hr ht
    refine (w_nT ht ?_)
    refine w_seq ?_
    obtain ⟨v, vF5, hr⟩ := hr.bind
    refine w_joinR (sj := ⟨[(0, .cv (.val (.sl (List.map eI l)))), (1, .cv (.val (.int .i64 n))), (5, .cv (.val (.int .i64 at_))), (32, .cv (.val (.bool v)))], h.on []⟩) (A_ops ?_) ?_
    · have hr := Holds.intro (D := fun z => z = v) vF5 rfl
      refine A_upto 5 ?_
      rcases hr.ite with ⟨cF1, hr⟩ | ⟨cF1, hr⟩
      · obtain ⟨n1, nF2, eF3, gF4, hr⟩ := hr.idx
        refine A_ops_end ?_
        obtain rfl : _ = v := hr
        exact w_k (A_cut hwf)
      · refine A_ops_end ?_
        obtain rfl : _ = v := hr
        exact w_k (A_cut hwf)
    refine A_condH hr (fun cF6 hr => ?_) (fun cF6 hr => ?_)
    · refine w_seq ?_
      refine A_region ?_
      refine w_n ?_
      refine w_ret ?_
      obtain rfl := hD _ hr
      exact (w_tr (A_endR (A_cut (os' := []) (sl := [(4, .cv (.val (.sl (List.map eI l))))]) hwf) ⟨rfl, on_nil hwf⟩))
    · refine w_skip ?_
      refine w_n ?_
      refine w_seq ?_
      obtain ⟨nF7, nF8, hr⟩ := hr.cutH
      obtain ⟨nF9, hr⟩ := hr.room
      refine A_region ?_
      refine w_n ?_
      refine w_seq ?_
      obtain ⟨nF10, hr⟩ := hr.room
      refine A_region ?_
      refine w_n ?_
      refine w_seq ?_
      obtain ⟨nF11, nF12, hr⟩ := hr.cutL
      obtain ⟨nF13, hr⟩ := hr.room
      refine A_region ?_
      refine w_n ?_
      refine w_ret ?_
      obtain rfl := hD _ hr
      exact (A_endR (.fix _ _ (.slot 4) 3 _ (by simp (disch := (apply Apart.mk; decide)) only [go_sem, Nat.reduceAdd, Nat.reduceLT, Nat.reduceMul, Nat.reduceLeDiff, Int.reduceToNat, Int.reduceLT, Int.reduceLE, cF6]; rfl) (A_cut (os' := []) (sl := [(4, .cv (.val (.sl (List.map eI (((List.take (Int.toNat at_) l) ++ ([n])) ++ (List.drop (Int.toNat at_) l))))))]) hwf)) ⟨rfl, on_nil hwf⟩)
  · refine w_block ?_
    refine w_Loop (fun xX : Int => ⟨[(0, .cv (.val (.sl (List.map eI l)))), (1, .cv (.val (.int .i64 n))), (5, .cv (.val (.int .i64 xX)))], h.on []⟩) hr (A_cut hwf) (fun W1 xX hr => ?_)
    obtain ⟨at_1, rfl⟩ : ∃ z, z = xX := ⟨xX, rfl⟩
    dsimp only [scansionref02_rising.b1] at hr
    refine w_seq ?_
    obtain ⟨v1, vF18, hr⟩ := hr.bind
    refine w_joinR (sj := ⟨[(0, .cv (.val (.sl (List.map eI l)))), (1, .cv (.val (.int .i64 n))), (5, .cv (.val (.int .i64 at_1))), (18, .cv (.val (.bool v1)))], h.on []⟩) (A_ops ?_) ?_
    · have hr := Holds.intro (D := fun z => z = v1) vF18 rfl
      refine A_upto 5 ?_
      rcases hr.ite with ⟨cF14, hr⟩ | ⟨cF14, hr⟩
      · obtain ⟨n2, nF15, eF16, gF17, hr⟩ := hr.idx
        refine A_ops_end ?_
        obtain rfl : _ = v1 := hr
        exact w_k (A_cut hwf)
      · refine A_ops_end ?_
        obtain rfl : _ = v1 := hr
        exact w_k (A_cut hwf)
    refine A_condH hr (fun cF19 hr => ?_) (fun cF19 hr => ?_)
    · refine w_skip ?_
      refine w_n ?_
      refine w_block ?_
      refine A_region ?_
      exact (w_bn (w_k ⟨(IntKind.i64.wrap (at_1 + (1 : Int))), hr, (A_cut hwf)⟩))
    · refine w_exit ?_
      exact (w_te (w_te (w_bx (w_k ⟨at_1, (hr).map, (A_cut hwf)⟩))))
end Go.Val

/- part IW88 -/
/- scansion/scansionref02.edges runs as it is read off. -/
namespace Go.Val
set_option linter.unusedVariables false
set_option linter.unusedSimpArgs false
set_option maxRecDepth 20000
open Go.Proofs
theorem scansionref02_edges_runs (a_ : List TRange) (b : List TRange) {h : Heap} {a : List Int} (e : scansionref02_edges a_ b = some a) :
    Runs CT 88 [.cv (.val (.sl (List.map eRange a_))), .cv (.val (.sl (List.map eRange b)))] h fun o h' => o = [.cv (.val (.sl (List.map eI a)))] ∧ h' = h := by
  refine Runs.start Try.f88 _ Try.func88 rfl (by rw [Try.ntmps88]; simp) (by rfl) (by rfl) (fun hwf hu => ?_)
  obtain ⟨D, hD, hr⟩ : ∃ D : List Int → Prop, (∀ z, D z → z = a) ∧ Holds (scansionref02_edges a_ b) D := ⟨fun z => z = a, fun _ h => h, Holds.intro e rfl⟩
  dsimp only [scansionref02_edges] at hr
  change wpCode _ _ _ _ _ ⟨[(0, .cv (.val (.sl (List.map eRange a_)))), (1, .cv (.val (.sl (List.map eRange b))))], h.on []⟩
  refine w_seq ?_
  refine A_region ?_
  refine w_n ?_
  refine w_seq ?_
  refine A_region ?_
  refine w_n ?_
  refine w_seq ?_
  obtain ⟨nF1, hr⟩ := hr.room
  obtain ⟨nF2, hr⟩ := hr.room
  refine A_region ?_
  refine w_n ?_
  refine w_seq ?_
  refine w_seq ?_
  refine A_region ?_
  refine w_n ?_
  refine w_K (D := D) (fun xX : List Int => ⟨[(5, .cv (.val (.sl (List.map eI xX))))], h.on []⟩) (fun xX : List Int => scansionref02_edges.k1 xX) (fun xX s' hr ht => ?_) ?_
  · obtain ⟨out, rfl⟩ : ∃ z, z = xX := ⟨xX, rfl⟩
    dsimp only [scansionref02_edges.k1] at hr ht
    refine (w_nT ht ?_)
    refine w_seq ?_
    refine A_region ?_
    refine w_n ?_
    refine w_ret ?_
    obtain rfl := hD _ hr
    exact (A_endR (A_cut (os' := []) (sl := [(4, .cv (.val (.sl (List.map eI out))))]) hwf) ⟨rfl, on_nil hwf⟩)
  · refine w_block ?_
    refine w_Loop (fun xX : (List Int × Int) => ⟨[(5, .cv (.val (.sl (List.map eI xX.1)))), (6, .cv (.row 80 (List.map eRange (a_ ++ b)))), (7, .cv (.val (.int .i64 xX.2)))], h.on []⟩) hr (.fix _ _ (.slot 5) 3 _ (by simp (disch := (apply Apart.mk; decide)) only [go_sem, Nat.reduceAdd, Nat.reduceLT, Nat.reduceMul, Nat.reduceLeDiff, Int.reduceToNat, Int.reduceLT, Int.reduceLE]; rfl) (A_cut hwf)) (fun W1 xX hr => ?_)
    obtain ⟨out1, i⟩ := xX
    dsimp only [scansionref02_edges.b1] at hr
    refine w_seq ?_
    refine w_seq ?_
    refine A_region ?_
    refine w_n ?_
    refine A_condH hr (fun cF3 hr => ?_) (fun cF3 hr => ?_)
    · refine w_skip ?_
      refine w_n ?_
      refine w_seq ?_
      refine w_K (D := (Aft W1 D)) (fun xX : List Int => ⟨[(5, .cv (.val (.sl (List.map eI xX)))), (6, .cv (.row 80 (List.map eRange (a_ ++ b)))), (7, .cv (.val (.int .i64 i)))], h.on []⟩) (fun xX : List Int => scansionref02_edges.k2 i xX) (fun xX s' hr ht => ?_) ?_
      · obtain ⟨out2, rfl⟩ : ∃ z, z = xX := ⟨xX, rfl⟩
        dsimp only [scansionref02_edges.k2] at hr ht
        refine (w_nT ht ?_)
        refine A_region ?_
        exact (w_k ⟨(out2, (IntKind.i64.wrap (i + (1 : Int)))), hr, (A_cut hwf)⟩)
      · refine w_block ?_
        refine w_seq ?_
        refine A_ops ?_
        (obtain ⟨x, nF4, eF5, gF6, hr⟩ := hr.idx; replace eF5 := congrArg (Option.map eRange) eF5; rw [← List.getElem?_map, List.map_append] at eF5; simp only [Option.map_some, List.map_append, List.length_append, eRange] at nF4 eF5 gF6)
        refine A_upto 6 ?_
        obtain ⟨r, eF7, hr⟩ := hr.bind
        refine A_call (out := ?o_eF7) (hp := ?p_eF7) ?c_eF7 ?d_eF7 ?_
        case c_eF7 => exact scansionref02_rising_runs out1 x.Low eF7
        case d_eF7 => rfl
        refine A_ops_end ?_
        refine w_n ?_
        refine w_seq ?_
        refine A_region ?_
        refine w_n ?_
        refine A_condH hr (fun cF8 hr => ?_) (fun cF8 hr => ?_)
        · refine A_ops ?_
          refine A_upto 7 ?_
          obtain ⟨r1, eF9, hr⟩ := hr.bind
          refine A_call (out := ?o_eF9) (hp := ?p_eF9) ?c_eF9 ?d_eF9 ?_
          case c_eF9 => exact scansionref02_rising_runs r (IntKind.i64.wrap (x.High + (1 : Int))) eF9
          case d_eF9 => rfl
          refine A_ops_end ?_
          exact (w_bn (w_k ⟨r1, hr, (A_cut hwf)⟩))
        · refine w_skip ?_
          exact (w_bn (w_k ⟨r, hr, (A_cut hwf)⟩))
    · refine w_exit ?_
      exact (w_te (w_te (w_bx (w_k ⟨out1, (hr).map, (A_cut hwf)⟩))))
end Go.Val

/- part IW28 -/
/- scansion/scansionref02.Has runs as it is read off. -/
namespace Go.Val
set_option linter.unusedVariables false
set_option linter.unusedSimpArgs false
set_option maxRecDepth 20000
open Go.Proofs
theorem scansionref02_Has_runs (a_ : List TRange) (r : Int) {h : Heap} {a : Bool} (e : scansionref02_Has a_ r = some a) :
    Runs CT 28 [.cv (.val (.sl (List.map eRange a_))), .cv (.val (.int .i64 r))] h fun o h' => o = [.cv (.val (.bool a))] ∧ h' = h := by
  refine Runs.start Try.f28 _ Try.func28 rfl (by rw [Try.ntmps28]; simp) (by rfl) (by rfl) (fun hwf hu => ?_)
  obtain ⟨D, hD, hr⟩ : ∃ D : Bool → Prop, (∀ z, D z → z = a) ∧ Holds (scansionref02_Has a_ r) D := ⟨fun z => z = a, fun _ h => h, Holds.intro e rfl⟩
  dsimp only [scansionref02_Has] at hr
  change wpCode _ _ _ _ _ ⟨[(0, .cv (.val (.sl (List.map eRange a_)))), (1, .cv (.val (.int .i64 r)))], h.on []⟩
  refine w_seq ?_
  refine A_region ?_
  refine w_n ?_
  refine w_seq ?_
  refine w_seq ?_
  refine A_region ?_
  refine w_n ?_
  refine w_K (D := D) (fun xX : Unit => ⟨[], h.on []⟩) (fun xX : Unit => scansionref02_Has.k1) (fun xX s' hr ht => ?_) ?_
  · dsimp only [scansionref02_Has.k1] at hr ht
    refine (w_nT ht ?_)
    refine w_seq ?_
    refine A_region ?_
    refine w_n ?_
    refine w_ret ?_
    obtain rfl := hD _ hr
    exact (A_endR (A_cut (os' := []) (sl := [(4, .cv (.val (.bool false)))]) hwf) ⟨rfl, on_nil hwf⟩)
  · refine w_block ?_
    refine w_Loop (fun xX : Int => ⟨[(0, .cv (.val (.sl (List.map eRange a_)))), (1, .cv (.val (.int .i64 r))), (5, .cv (.val (.int .i64 xX)))], h.on []⟩) hr (A_cut hwf) (fun W1 xX hr => ?_)
    obtain ⟨i, rfl⟩ : ∃ z, z = xX := ⟨xX, rfl⟩
    dsimp only [scansionref02_Has.b1] at hr
    refine w_seq ?_
    refine w_seq ?_
    refine A_region ?_
    refine w_n ?_
    refine A_condH hr (fun cF1 hr => ?_) (fun cF1 hr => ?_)
    · refine w_skip ?_
      refine w_n ?_
      refine w_seq ?_
      refine w_block ?_
      obtain ⟨v, vF6, hr⟩ := hr.bind
      refine w_joinR (sj := ⟨[(0, .cv (.val (.sl (List.map eRange a_)))), (1, .cv (.val (.int .i64 r))), (5, .cv (.val (.int .i64 i))), (27, .cv (.val (.bool v)))], h.on []⟩) (A_ops ?_) ?_
      · have hr := Holds.intro (D := fun z => z = v) vF6 rfl
        obtain ⟨x, nF2, eF3, gF4, hr⟩ := hr.idx
        refine A_upto 8 ?_
        rcases hr.ite with ⟨cF5, hr⟩ | ⟨cF5, hr⟩
        · refine A_ops_end ?_
          obtain rfl : _ = v := hr
          exact w_k (A_cut hwf)
        · refine A_ops_end ?_
          obtain rfl : _ = v := hr
          exact w_k (A_cut hwf)
      refine A_condH hr (fun cF7 hr => ?_) (fun cF7 hr => ?_)
      · refine w_seq ?_
        refine A_region ?_
        refine w_n ?_
        refine w_ret ?_
        obtain rfl := hD _ hr
        exact (w_br (w_tr (w_tr (w_br (w_tr (w_tr (A_endR (A_cut (os' := []) (sl := [(4, .cv (.val (.bool true)))]) hwf) ⟨rfl, on_nil hwf⟩)))))))
      · refine w_skip ?_
        refine (w_bn (w_n ?_))
        refine A_region ?_
        exact (w_k ⟨(IntKind.i64.wrap (i + (1 : Int))), hr, (A_cut hwf)⟩)
    · refine w_exit ?_
      exact (w_te (w_te (w_bx (w_k ⟨(), (hr).map, (A_cut hwf)⟩))))
end Go.Val

/- part IW89 -/
/- scansion/scansionref02.with runs as it is read off. -/
namespace Go.Val
set_option linter.unusedVariables false
set_option linter.unusedSimpArgs false
set_option maxRecDepth 20000
open Go.Proofs
theorem scansionref02_with_runs (l : List TRange) (low : Int) (high : Int) {h : Heap} {a : List TRange} (e : scansionref02_with l low high = some a) :
    Runs CT 89 [.cv (.row 80 (List.map eRange l)), .cv (.val (.int .i64 low)), .cv (.val (.int .i64 high))] h fun o h' => o = [.cv (.row 80 (List.map eRange a))] ∧ h' = h := by
  refine Runs.start Try.f89 _ Try.func89 rfl (by rw [Try.ntmps89]; simp) (by rfl) (by rfl) (fun hwf hu => ?_)
  obtain ⟨D, hD, hr⟩ : ∃ D : List TRange → Prop, (∀ z, D z → z = a) ∧ Holds (scansionref02_with l low high) D := ⟨fun z => z = a, fun _ h => h, Holds.intro e rfl⟩
  dsimp only [scansionref02_with] at hr
  change wpCode _ _ _ _ _ ⟨[(0, .cv (.row 80 (List.map eRange l))), (1, .cv (.val (.int .i64 low))), (2, .cv (.val (.int .i64 high)))], h.on []⟩
  refine w_seq ?_
  refine A_region ?_
  refine w_n ?_
  refine w_seq ?_
  refine A_region ?_
  refine w_n ?_
  refine w_seq ?_
  obtain ⟨v, vF5, hr⟩ := hr.bind
  refine w_joinR (sj := ⟨[(0, .cv (.row 80 (List.map eRange l))), (1, .cv (.val (.int .i64 low))), (2, .cv (.val (.int .i64 high))), (7, .cv (.val (.int .i64 (l.length : Int)))), (22, .cv (.val (.bool v)))], h.on []⟩) (A_ops ?_) ?_
  · have hr := Holds.intro (D := fun z => z = v) vF5 rfl
    refine A_upto 3 ?_
    rcases hr.ite with ⟨cF1, hr⟩ | ⟨cF1, hr⟩
    · obtain ⟨x, nF2, eF3, gF4, hr⟩ := hr.idx
      refine A_ops_end ?_
      obtain rfl : _ = v := hr
      exact w_k (A_cut hwf)
    · refine A_ops_end ?_
      obtain rfl : _ = v := hr
      exact w_k (A_cut hwf)
  refine A_condH hr (fun cF6 hr => ?_) (fun cF6 hr => ?_)
  · refine w_seq ?_
    obtain ⟨x1, nF7, eF8, gF9, hr⟩ := hr.idx
    refine A_region ?_
    refine w_n ?_
    refine w_seq ?_
    refine A_region ?_
    refine w_n ?_
    refine w_ret ?_
    obtain rfl := hD _ hr
    exact (w_tr (A_endR (A_cut (os' := []) (sl := [(6, .cv (.row 80 (List.map eRange (List.set l (Int.toNat (IntKind.i64.wrap ((l.length : Int) - (1 : Int)))) (TRange.mk x1.Low high)))))]) hwf) ⟨rfl, on_nil hwf⟩))
  · refine w_skip ?_
    refine w_n ?_
    refine w_seq ?_
    obtain ⟨nF10, hr⟩ := hr.room
    refine A_region ?_
    refine w_n ?_
    refine w_ret ?_
    obtain rfl := hD _ hr
    exact (A_endR (A_cut (os' := []) (sl := [(6, .cv (.row 80 (List.map eRange (l ++ ([(TRange.mk low high)])))))]) hwf) ⟨rfl, on_nil hwf⟩)
end Go.Val

/- part IW59 -/
/- scansion/scansionref02.pick runs as it is read off. -/
namespace Go.Val
set_option linter.unusedVariables false
set_option linter.unusedSimpArgs false
set_option maxRecDepth 20000
open Go.Proofs
theorem scansionref02_pick_runs (a_ : List TRange) (b : List TRange) (kind : Int) {h : Heap} {a : List TRange} (e : scansionref02_pick a_ b kind = some a) :
    Runs CT 59 [.cv (.val (.sl (List.map eRange a_))), .cv (.val (.sl (List.map eRange b))), .cv (.val (.int .i64 kind))] h fun o h' => o = [.cv (.val (.sl (List.map eRange a)))] ∧ h' = h := by
  refine Runs.start Try.f59 _ Try.func59 rfl (by rw [Try.ntmps59]; simp) (by rfl) (by rfl) (fun hwf hu => ?_)
  obtain ⟨D, hD, hr⟩ : ∃ D : List TRange → Prop, (∀ z, D z → z = a) ∧ Holds (scansionref02_pick a_ b kind) D := ⟨fun z => z = a, fun _ h => h, Holds.intro e rfl⟩
  dsimp only [scansionref02_pick] at hr
  change wpCode _ _ _ _ _ ⟨[(0, .cv (.val (.sl (List.map eRange a_)))), (1, .cv (.val (.sl (List.map eRange b)))), (2, .cv (.val (.int .i64 kind)))], h.on []⟩
  refine w_seq ?_
  refine A_region ?_
  refine w_n ?_
  refine w_seq ?_
  refine A_ops ?_
  refine A_upto 2 ?_
  obtain ⟨r, eF1, hr⟩ := hr.bind
  refine A_call (out := ?o_eF1) (hp := ?p_eF1) ?c_eF1 ?d_eF1 ?_
  case c_eF1 => exact scansionref02_edges_runs a_ b eF1
  case d_eF1 => rfl
  refine A_ops_end ?_
  refine w_n ?_
  refine w_seq ?_
  refine A_region ?_
  refine w_n ?_
  refine w_seq ?_
  refine w_seq ?_
  refine A_region ?_
  refine w_n ?_
  refine w_K (D := D) (fun xX : List TRange => ⟨[(8, .cv (.row 80 (List.map eRange xX)))], h.on []⟩) (fun xX : List TRange => scansionref02_pick.k1 xX) (fun xX s' hr ht => ?_) ?_
  · obtain ⟨out, rfl⟩ : ∃ z, z = xX := ⟨xX, rfl⟩
    dsimp only [scansionref02_pick.k1] at hr ht
    refine (w_nT ht ?_)
    refine w_seq ?_
    refine A_region ?_
    refine w_n ?_
    refine w_ret ?_
    obtain rfl := hD _ hr
    exact (A_endR (.fix _ _ (.slot 6) 80 _ (by simp (disch := (apply Apart.mk; decide)) only [go_sem, Nat.reduceAdd, Nat.reduceLT, Nat.reduceMul, Nat.reduceLeDiff, Int.reduceToNat, Int.reduceLT, Int.reduceLE]; rfl) (A_cut (os' := []) (sl := [(6, .cv (.val (.sl (List.map eRange out))))]) hwf)) ⟨rfl, on_nil hwf⟩)
  · refine w_block ?_
    refine w_Loop (fun xX : (List TRange × Int) => ⟨[(0, .cv (.val (.sl (List.map eRange a_)))), (1, .cv (.val (.sl (List.map eRange b)))), (2, .cv (.val (.int .i64 kind))), (7, .cv (.val (.sl (List.map eI r)))), (8, .cv (.row 80 (List.map eRange xX.1))), (9, .cv (.val (.int .i64 xX.2)))], h.on []⟩) hr (A_cut hwf) (fun W1 xX hr => ?_)
    obtain ⟨out1, i⟩ := xX
    dsimp only [scansionref02_pick.b1] at hr
    refine w_seq ?_
    refine w_seq ?_
    refine A_region ?_
    refine w_n ?_
    refine A_condH hr (fun cF2 hr => ?_) (fun cF2 hr => ?_)
    · refine w_skip ?_
      refine w_n ?_
      refine w_seq ?_
      refine w_K (D := (Aft W1 D)) (fun xX : List TRange => ⟨[(0, .cv (.val (.sl (List.map eRange a_)))), (1, .cv (.val (.sl (List.map eRange b)))), (2, .cv (.val (.int .i64 kind))), (7, .cv (.val (.sl (List.map eI r)))), (8, .cv (.row 80 (List.map eRange xX))), (9, .cv (.val (.int .i64 i)))], h.on []⟩) (fun xX : List TRange => scansionref02_pick.k2 i xX) (fun xX s' hr ht => ?_) ?_
      · obtain ⟨out2, rfl⟩ : ∃ z, z = xX := ⟨xX, rfl⟩
        dsimp only [scansionref02_pick.k2] at hr ht
        refine (w_nT ht ?_)
        refine A_region ?_
        exact (w_k ⟨(out2, (IntKind.i64.wrap (i + (1 : Int)))), hr, (A_cut hwf)⟩)
      · refine w_block ?_
        refine w_seq ?_
        refine A_region ?_
        refine w_n ?_
        refine w_seq ?_
        refine w_seq ?_
        refine A_region ?_
        refine w_n ?_
        refine w_K (D := (Aft W1 D)) (fun xX : Int => ⟨[(0, .cv (.val (.sl (List.map eRange a_)))), (1, .cv (.val (.sl (List.map eRange b)))), (2, .cv (.val (.int .i64 kind))), (7, .cv (.val (.sl (List.map eI r)))), (8, .cv (.row 80 (List.map eRange out1))), (9, .cv (.val (.int .i64 i))), (10, .cv (.val (.int .i64 xX)))], h.on []⟩) (fun xX : Int => scansionref02_pick.k3 a_ b kind r out1 i xX) (fun xX s' hr ht => ?_) ?_
        · obtain ⟨high, rfl⟩ : ∃ z, z = xX := ⟨xX, rfl⟩
          dsimp only [scansionref02_pick.k3] at hr ht
          refine (w_nT ht ?_)
          refine w_seq ?_
          refine A_ops ?_
          obtain ⟨n, nF3, eF4, gF5, hr⟩ := hr.idx
          refine A_upto 5 ?_
          obtain ⟨r1, eF6, hr⟩ := hr.bind
          refine A_call (out := ?o_eF6) (hp := ?p_eF6) ?c_eF6 ?d_eF6 ?_
          case c_eF6 => exact scansionref02_Has_runs a_ n eF6
          case d_eF6 => rfl
          refine A_ops_end ?_
          refine w_n ?_
          refine w_seq ?_
          refine A_ops ?_
          refine A_upto 5 ?_
          obtain ⟨r2, eF7, hr⟩ := hr.bind
          refine A_call (out := ?o_eF7) (hp := ?p_eF7) ?c_eF7 ?d_eF7 ?_
          case c_eF7 => exact scansionref02_Has_runs b n eF7
          case d_eF7 => rfl
          refine A_ops_end ?_
          refine w_n ?_
          refine w_joinR (sj := ⟨[(0, .cv (.val (.sl (List.map eRange a_)))), (1, .cv (.val (.sl (List.map eRange b)))), (2, .cv (.val (.int .i64 kind))), (7, .cv (.val (.sl (List.map eI r)))), (8, .cv (.row 80 (List.map eRange out1))), (9, .cv (.val (.int .i64 i))), (10, .cv (.val (.int .i64 high))), (11, .cv (.val (.bool r1))), (12, .cv (.val (.bool r2))), (13, .cv (.val (.bool (r1 || r2))))], h.on []⟩) (A_ops ?_) ?_
          · refine A_upto 2 ?_
            rcases Bool.eq_false_or_eq_true r1 with cF8 | cF8
            · refine A_ops_end ?_
              exact w_k (A_cut hwf)
            · refine A_ops_end ?_
              exact w_k (A_cut hwf)
          refine w_seq ?_
          refine w_seq ?_
          refine A_region ?_
          refine w_n ?_
          refine w_K (D := (Aft W1 D)) (fun xX : Bool => ⟨[(0, .cv (.val (.sl (List.map eRange a_)))), (1, .cv (.val (.sl (List.map eRange b)))), (2, .cv (.val (.int .i64 kind))), (7, .cv (.val (.sl (List.map eI r)))), (8, .cv (.row 80 (List.map eRange out1))), (9, .cv (.val (.int .i64 i))), (10, .cv (.val (.int .i64 high))), (13, .cv (.val (.bool xX)))], h.on []⟩) (fun xX : Bool => scansionref02_pick.k4 out1 i high n xX) (fun xX s' hr ht => ?_) ?_
          · obtain ⟨is1, rfl⟩ : ∃ z, z = xX := ⟨xX, rfl⟩
            dsimp only [scansionref02_pick.k4] at hr ht
            refine (w_nT ht ?_)
            refine w_seq ?_
            refine A_region ?_
            refine w_n ?_
            refine A_condH hr (fun cF9 hr => ?_) (fun cF9 hr => ?_)
            · refine A_ops ?_
              refine A_upto 6 ?_
              obtain ⟨r3, eF10, hr⟩ := hr.bind
              refine A_call (out := ?o_eF10) (hp := ?p_eF10) ?c_eF10 ?d_eF10 ?_
              case c_eF10 => exact scansionref02_with_runs out1 n high eF10
              case d_eF10 => rfl
              refine A_ops_end ?_
              exact (w_bn (w_k ⟨r3, hr, (A_cut hwf)⟩))
            · refine w_skip ?_
              exact (w_bn (w_k ⟨out1, hr, (A_cut hwf)⟩))
          · refine w_block ?_
            refine w_seq ?_
            refine A_region ?_
            refine w_n ?_
            refine A_condH hr (fun cF11 hr => ?_) (fun cF11 hr => ?_)
            · refine A_ops ?_
              refine A_upto 2 ?_
              rcases hr.ite with ⟨cF12, hr⟩ | ⟨cF12, hr⟩
              · refine A_ops_end ?_
                exact (w_bn (w_k ⟨r2, hr, (A_cut hwf)⟩))
              · refine A_ops_end ?_
                exact (w_bn (w_k ⟨false, hr, (A_cut hwf)⟩))
            · refine w_seq ?_
              refine A_region ?_
              refine w_n ?_
              refine A_condH hr (fun cF13 hr => ?_) (fun cF13 hr => ?_)
              · refine A_ops ?_
                refine A_upto 2 ?_
                rcases hr.ite with ⟨cF14, hr⟩ | ⟨cF14, hr⟩
                · refine A_ops_end ?_
                  exact (w_bn (w_k ⟨(!r2), hr, (A_cut hwf)⟩))
                · refine A_ops_end ?_
                  exact (w_bn (w_k ⟨false, hr, (A_cut hwf)⟩))
              · refine w_seq ?_
                refine A_region ?_
                refine w_n ?_
                refine A_condH hr (fun cF15 hr => ?_) (fun cF15 hr => ?_)
                · refine A_ops ?_
                  refine A_upto 3 ?_
                  rcases hr.ite with ⟨cF16, hr⟩ | ⟨cF16, hr⟩
                  · refine A_ops_end ?_
                    exact (w_bn (w_k ⟨(!r2), hr, (A_cut hwf)⟩))
                  · refine A_ops_end ?_
                    exact (w_bn (w_k ⟨false, hr, (A_cut hwf)⟩))
                · refine w_skip ?_
                  exact (w_bn (w_k ⟨(r1 || r2), hr, (A_cut hwf)⟩))
        · refine A_condH hr (fun cF17 hr => ?_) (fun cF17 hr => ?_)
          · obtain ⟨n1, nF18, eF19, gF20, hr⟩ := hr.idx
            refine A_region ?_
            exact (w_k ⟨(IntKind.i64.wrap (n1 - (1 : Int))), hr, (A_cut hwf)⟩)
          · refine w_skip ?_
            exact (w_k ⟨(1114111 : Int), hr, (A_cut hwf)⟩)
    · refine w_exit ?_
      exact (w_te (w_te (w_bx (w_k ⟨out1, (hr).map, (A_cut hwf)⟩))))
end Go.Val

/- part IW21 -/
/- scansion/scansionref02.Make runs as it is read off. -/
namespace Go.Val
set_option linter.unusedVariables false
set_option linter.unusedSimpArgs false
set_option maxRecDepth 20000
open Go.Proofs
theorem scansionref02_Make_runs (l : List TRange) {h : Heap} {a : (List TRange × Int)} (e : scansionref02_Make l = some a) :
    Runs CT 21 [.cv (.val (.sl (List.map eRange l)))] h fun o h' => o = [.cv (.val (.sl (List.map eRange a.1))), .cv (.val (.int .i64 a.2))] ∧ h' = h := by
  refine Runs.start Try.f21 _ Try.func21 rfl (by rw [Try.ntmps21]; simp) (by rfl) (by rfl) (fun hwf hu => ?_)
  obtain ⟨D, hD, hr⟩ : ∃ D : (List TRange × Int) → Prop, (∀ z, D z → z = a) ∧ Holds (scansionref02_Make l) D := ⟨fun z => z = a, fun _ h => h, Holds.intro e rfl⟩
  dsimp only [scansionref02_Make] at hr
  change wpCode _ _ _ _ _ ⟨[(0, .cv (.val (.sl (List.map eRange l))))], h.on []⟩
  refine w_seq ?_
  refine A_region ?_
  refine w_n ?_
  refine w_seq ?_
  refine w_seq ?_
  refine A_region ?_
  refine w_n ?_
  refine w_K (D := D) (fun xX : Unit => ⟨[(0, .cv (.val (.sl (List.map eRange l))))], h.on []⟩) (fun xX : Unit => scansionref02_Make.k1 l) (fun xX s' hr ht => ?_) ?_
  · dsimp only [scansionref02_Make.k1] at hr ht
    refine (w_nT ht ?_)
    refine w_seq ?_
    refine A_ops ?_
    refine A_upto 1 ?_
    obtain ⟨r, eF1, hr⟩ := hr.bind
    refine A_call (out := ?o_eF1) (hp := ?p_eF1) ?c_eF1 ?d_eF1 ?_
    case c_eF1 => exact scansionref02_pick_runs l [] (0 : Int) eF1
    case d_eF1 => rfl
    refine A_ops_end ?_
    refine w_n ?_
    refine w_ret ?_
    obtain rfl := hD _ hr
    exact (A_endR (A_cut (os' := []) (sl := [(2, .cv (.val (.sl (List.map eRange r)))), (3, .cv (.val (.int .i64 (0 : Int))))]) hwf) ⟨rfl, on_nil hwf⟩)
  · refine w_block ?_
    refine w_Loop (fun xX : Int => ⟨[(0, .cv (.val (.sl (List.map eRange l)))), (4, .cv (.val (.int .i64 xX)))], h.on []⟩) hr (A_cut hwf) (fun W1 xX hr => ?_)
    obtain ⟨i, rfl⟩ : ∃ z, z = xX := ⟨xX, rfl⟩
    dsimp only [scansionref02_Make.b1] at hr
    refine w_seq ?_
    refine w_seq ?_
    refine A_region ?_
    refine w_n ?_
    refine A_condH hr (fun cF2 hr => ?_) (fun cF2 hr => ?_)
    · refine w_skip ?_
      refine w_n ?_
      refine w_seq ?_
      refine w_block ?_
      obtain ⟨v, vF8, hr⟩ := hr.bind
      refine w_joinR (sj := ⟨[(0, .cv (.val (.sl (List.map eRange l)))), (4, .cv (.val (.int .i64 i))), (37, .cv (.val (.bool v)))], h.on []⟩) (w_drawn [0, 1, 2, 3, 4, 5, 6, 7, 8, 9, 10, 11, 12, 13, 14, 15, 16, 17, 18, 19, 20, 21, 22, 23, 24, 25, 26] (by rfl) ?_) ?_
      · have hr := Holds.intro (D := fun z => z = v) vF8 rfl
        obtain ⟨x, nF3, eF4, gF5, hr⟩ := hr.idx
        refine p_run (l := [0, 1, 2, 3, 4, 5, 6]) (pend' := [6, 5, 4, 3, 2, 1, 0]) (by simp (disch := (apply Apart.mk; decide)) only [go_sem, Nat.reduceAdd, Nat.reduceLT, Nat.reduceMul, Nat.reduceLeDiff, Int.reduceToNat, Int.reduceLT, Int.reduceLE, nF3, eF4, gF5]; rfl) rfl ?_
        rcases hr.ite with ⟨cF6, hr⟩ | ⟨cF6, hr⟩
        · refine p_run (l := [7, 8, 9, 10, 11, 12, 13, 14, 15, 16, 17, 18, 19, 20, 21, 22, 23, 24, 25, 26]) (pend' := [26, 25, 24, 23, 22, 21, 20, 19, 18, 17, 16, 15, 14, 13, 12, 11, 10, 9, 8, 7, 6, 5, 4, 3, 2, 1, 0]) (by simp (disch := (apply Apart.mk; decide)) only [go_sem, Nat.reduceAdd, Nat.reduceLT, Nat.reduceMul, Nat.reduceLeDiff, Int.reduceToNat, Int.reduceLT, Int.reduceLE, nF3, eF4, gF5, cF6]; rfl) rfl ?_
          refine p_end (by simp (disch := (apply Apart.mk; decide)) only [go_sem, Nat.reduceAdd, Nat.reduceLT, Nat.reduceMul, Nat.reduceLeDiff, Int.reduceToNat, Int.reduceLT, Int.reduceLE, nF3, eF4, gF5, cF6]) ?_
          obtain rfl : _ = v := hr
          exact w_k (A_cut hwf)
        · refine p_run (l := [7, 8, 9, 10, 11, 12, 13, 14]) (pend' := [14, 13, 12, 11, 10, 9, 8, 7, 6, 5, 4, 3, 2, 1, 0]) (by simp (disch := (apply Apart.mk; decide)) only [go_sem, Nat.reduceAdd, Nat.reduceLT, Nat.reduceMul, Nat.reduceLeDiff, Int.reduceToNat, Int.reduceLT, Int.reduceLE, nF3, eF4, gF5, cF6]; rfl) rfl ?_
          rcases hr.ite with ⟨cF7, hr⟩ | ⟨cF7, hr⟩
          · refine p_run (l := [15, 16, 17, 18, 19, 20, 21, 22, 23, 24, 25, 26]) (pend' := [26, 25, 24, 23, 22, 21, 20, 19, 18, 17, 16, 15, 14, 13, 12, 11, 10, 9, 8, 7, 6, 5, 4, 3, 2, 1, 0]) (by simp (disch := (apply Apart.mk; decide)) only [go_sem, Nat.reduceAdd, Nat.reduceLT, Nat.reduceMul, Nat.reduceLeDiff, Int.reduceToNat, Int.reduceLT, Int.reduceLE, nF3, eF4, gF5, cF6, cF7]; rfl) rfl ?_
            refine p_end (by simp (disch := (apply Apart.mk; decide)) only [go_sem, Nat.reduceAdd, Nat.reduceLT, Nat.reduceMul, Nat.reduceLeDiff, Int.reduceToNat, Int.reduceLT, Int.reduceLE, nF3, eF4, gF5, cF6, nF3, eF4, gF5, cF7]) ?_
            obtain rfl : _ = v := hr
            exact w_k (A_cut hwf)
          · refine p_run (l := [15, 16, 17, 18, 19, 20, 21, 22, 23, 24, 25, 26]) (pend' := [26, 25, 24, 23, 22, 21, 20, 19, 18, 17, 16, 15, 14, 13, 12, 11, 10, 9, 8, 7, 6, 5, 4, 3, 2, 1, 0]) (by simp (disch := (apply Apart.mk; decide)) only [go_sem, Nat.reduceAdd, Nat.reduceLT, Nat.reduceMul, Nat.reduceLeDiff, Int.reduceToNat, Int.reduceLT, Int.reduceLE, nF3, eF4, gF5, cF6, cF7]; rfl) rfl ?_
            refine p_end (by simp (disch := (apply Apart.mk; decide)) only [go_sem, Nat.reduceAdd, Nat.reduceLT, Nat.reduceMul, Nat.reduceLeDiff, Int.reduceToNat, Int.reduceLT, Int.reduceLE, nF3, eF4, gF5, cF6, nF3, eF4, gF5, cF7, nF3, eF4, gF5, nF3, eF4, gF5]) ?_
            obtain rfl : _ = v := hr
            exact w_k (A_cut hwf)
      refine A_condH hr (fun cF9 hr => ?_) (fun cF9 hr => ?_)
      · refine w_seq ?_
        refine A_region ?_
        refine w_n ?_
        refine w_ret ?_
        obtain rfl := hD _ hr
        exact (w_br (w_tr (w_tr (w_br (w_tr (w_tr (A_endR (A_cut (os' := []) (sl := [(2, .cv (.val (.sl (List.map eRange ([] : List TRange))))), (3, .cv (.val (.int .i64 (1 : Int))))]) hwf) ⟨rfl, on_nil hwf⟩)))))))
      · refine w_skip ?_
        refine (w_bn (w_n ?_))
        refine A_region ?_
        exact (w_k ⟨(IntKind.i64.wrap (i + (1 : Int))), hr, (A_cut hwf)⟩)
    · refine w_exit ?_
      exact (w_te (w_te (w_bx (w_k ⟨(), (hr).map, (A_cut hwf)⟩))))
end Go.Val

/- part IW116 -/
/- scansion/scansionref07.special runs as it is read off. -/
namespace Go.Val
set_option linter.unusedVariables false
set_option linter.unusedSimpArgs false
set_option maxRecDepth 20000
open Go.Proofs
theorem scansionref07_special_runs (r : Int) {h : Heap} {a : Bool} (e : scansionref07_special r = some a) :
    Runs CT 116 [.cv (.val (.int .i64 r))] h fun o h' => o = [.cv (.val (.bool a))] ∧ h' = h := by
  refine Runs.start Try.f116 _ Try.func116 rfl (by rw [Try.ntmps116]; simp) (by rfl) (by rfl) (fun hwf hu => ?_)
  obtain ⟨D, hD, hr⟩ : ∃ D : Bool → Prop, (∀ z, D z → z = a) ∧ Holds (scansionref07_special r) D := ⟨fun z => z = a, fun _ h => h, Holds.intro e rfl⟩
  dsimp only [scansionref07_special] at hr
  change wpCode _ _ _ _ _ ⟨[(0, .cv (.val (.int .i64 r)))], h.on []⟩
  refine w_seq ?_
  refine A_region ?_
  refine w_n ?_
  refine w_joinR (sj := ⟨[(2, .cv (.val (.bool ((r == (91 : Int)) || ((r == (92 : Int)) || ((r == (93 : Int)) || (r == (45 : Int))))))))], h.on []⟩) (A_ops ?_) ?_
  · refine A_upto 3 ?_
    rcases Bool.eq_false_or_eq_true (r == (91 : Int)) with cF1 | cF1
    · refine A_ops_end ?_
      exact w_k (A_cut hwf)
    · refine A_upto 4 ?_
      rcases Bool.eq_false_or_eq_true (r == (92 : Int)) with cF2 | cF2
      · refine A_ops_end ?_
        exact w_k (A_cut hwf)
      · refine A_upto 4 ?_
        rcases Bool.eq_false_or_eq_true (r == (93 : Int)) with cF3 | cF3
        · refine A_ops_end ?_
          exact w_k (A_cut hwf)
        · refine A_ops_end ?_
          exact w_k (A_cut hwf)
  refine w_ret ?_
  obtain rfl := hD _ hr
  exact (A_endR (A_cut (os' := []) (sl := [(2, .cv (.val (.bool ((r == (91 : Int)) || ((r == (92 : Int)) || ((r == (93 : Int)) || (r == (45 : Int))))))))]) hwf) ⟨rfl, on_nil hwf⟩)
end Go.Val

/- part IW133 -/
/- scansion/scansionref07.figure runs as it is read off. -/
namespace Go.Val
set_option linter.unusedVariables false
set_option linter.unusedSimpArgs false
set_option maxRecDepth 20000
open Go.Proofs
theorem scansionref07_figure_runs (r : Int) {h : Heap} {a : Int} (e : scansionref07_figure r = some a) :
    Runs CT 133 [.cv (.val (.int .i64 r))] h fun o h' => o = [.cv (.val (.int .i64 a))] ∧ h' = h := by
  refine Runs.start Try.f133 _ Try.func133 rfl (by rw [Try.ntmps133]; simp) (by rfl) (by rfl) (fun hwf hu => ?_)
  obtain ⟨D, hD, hr⟩ : ∃ D : Int → Prop, (∀ z, D z → z = a) ∧ Holds (scansionref07_figure r) D := ⟨fun z => z = a, fun _ h => h, Holds.intro e rfl⟩
  dsimp only [scansionref07_figure] at hr
  change wpCode _ _ _ _ _ ⟨[(0, .cv (.val (.int .i64 r)))], h.on []⟩
  refine w_seq ?_
  refine A_region ?_
  refine w_n ?_
  refine w_seq ?_
  refine w_joinR (sj := ⟨[(0, .cv (.val (.int .i64 r))), (8, .cv (.val (.bool ((decide (r ≥ (48 : Int))) && (decide (r ≤ (57 : Int)))))))], h.on []⟩) (A_ops ?_) ?_
  · refine A_upto 3 ?_
    rcases Bool.eq_false_or_eq_true (decide (r ≥ (48 : Int))) with cF1 | cF1
    · refine A_ops_end ?_
      exact w_k (A_cut hwf)
    · refine A_ops_end ?_
      exact w_k (A_cut hwf)
  refine A_condH hr (fun cF2 hr => ?_) (fun cF2 hr => ?_)
  · refine w_seq ?_
    refine A_region ?_
    refine w_n ?_
    refine w_ret ?_
    obtain rfl := hD _ hr
    exact (w_tr (A_endR (A_cut (os' := []) (sl := [(2, .cv (.val (.int .i64 (IntKind.i64.wrap (r - (48 : Int))))))]) hwf) ⟨rfl, on_nil hwf⟩))
  · refine w_skip ?_
    refine w_n ?_
    refine w_seq ?_
    refine w_joinR (sj := ⟨[(0, .cv (.val (.int .i64 r))), (16, .cv (.val (.bool ((decide (r ≥ (65 : Int))) && (decide (r ≤ (70 : Int)))))))], h.on []⟩) (A_ops ?_) ?_
    · refine A_upto 3 ?_
      rcases Bool.eq_false_or_eq_true (decide (r ≥ (65 : Int))) with cF3 | cF3
      · refine A_ops_end ?_
        exact w_k (A_cut hwf)
      · refine A_ops_end ?_
        exact w_k (A_cut hwf)
    refine A_condH hr (fun cF4 hr => ?_) (fun cF4 hr => ?_)
    · refine w_seq ?_
      refine A_region ?_
      refine w_n ?_
      refine w_ret ?_
      obtain rfl := hD _ hr
      exact (w_tr (A_endR (A_cut (os' := []) (sl := [(2, .cv (.val (.int .i64 (IntKind.i64.wrap (r - (55 : Int))))))]) hwf) ⟨rfl, on_nil hwf⟩))
    · refine w_skip ?_
      refine w_n ?_
      refine w_seq ?_
      refine A_region ?_
      refine w_n ?_
      refine w_ret ?_
      obtain rfl := hD _ hr
      exact (A_endR (A_cut (os' := []) (sl := [(2, .cv (.val (.int .i64 (-1 : Int))))]) hwf) ⟨rfl, on_nil hwf⟩)
end Go.Val

/- part IW117 -/
/- scansion/scansionref07.number runs as it is read off. -/
namespace Go.Val
set_option linter.unusedVariables false
set_option linter.unusedSimpArgs false
set_option maxRecDepth 20000
open Go.Proofs
theorem scansionref07_number_runs (l : List TUnit) (i : Int) {h : Heap} {a : (Int × Int × Int)} (e : scansionref07_number l i = some a) :
    Runs CT 117 [.cv (.val (.sl (List.map eUnit l))), .cv (.val (.int .i64 i))] h fun o h' => o = [.cv (.val (.int .i64 a.1)), .cv (.val (.int .i64 a.2.1)), .cv (.val (.int .i64 a.2.2))] ∧ h' = h := by
  refine Runs.start Try.f117 _ Try.func117 rfl (by rw [Try.ntmps117]; simp) (by rfl) (by rfl) (fun hwf hu => ?_)
  obtain ⟨D, hD, hr⟩ : ∃ D : (Int × Int × Int) → Prop, (∀ z, D z → z = a) ∧ Holds (scansionref07_number l i) D := ⟨fun z => z = a, fun _ h => h, Holds.intro e rfl⟩
  dsimp only [scansionref07_number] at hr
  change wpCode _ _ _ _ _ ⟨[(0, .cv (.val (.sl (List.map eUnit l)))), (1, .cv (.val (.int .i64 i)))], h.on []⟩
  refine w_seq ?_
  refine A_region ?_
  refine w_n ?_
  refine w_seq ?_
  refine A_region ?_
  refine w_n ?_
  refine w_seq ?_
  refine A_region ?_
  refine w_n ?_
  refine w_block ?_
  refine w_Loop (fun xX : (Int × Int × Int) => ⟨[(0, .cv (.val (.sl (List.map eUnit l)))), (1, .cv (.val (.int .i64 xX.1))), (7, .cv (.val (.int .i64 xX.2.1))), (8, .cv (.val (.int .i64 xX.2.2)))], h.on []⟩) hr (A_cut hwf) (fun W1 xX hr => ?_)
  obtain ⟨i1, n, many⟩ := xX
  dsimp only [scansionref07_number.b1] at hr
  refine w_block ?_
  refine w_seq ?_
  refine w_seq ?_
  refine A_region ?_
  refine w_n ?_
  refine A_condH hr (fun cF1 hr => ?_) (fun cF1 hr => ?_)
  · refine w_seq ?_
    refine A_region ?_
    refine w_n ?_
    refine w_ret ?_
    obtain rfl := hD _ hr
    exact (w_tr (w_br (w_tr (w_br (A_endR (A_cut (os' := []) (sl := [(4, .cv (.val (.int .i64 (0 : Int)))), (5, .cv (.val (.int .i64 i1))), (6, .cv (.val (.int .i64 (7 : Int))))]) hwf) ⟨rfl, on_nil hwf⟩)))))
  · refine w_skip ?_
    refine w_n ?_
    refine w_seq ?_
    refine A_ops ?_
    obtain ⟨x, nF2, eF3, gF4, hr⟩ := hr.idx
    refine A_upto 5 ?_
    obtain ⟨r, eF5, hr⟩ := hr.bind
    refine A_call (out := ?o_eF5) (hp := ?p_eF5) ?c_eF5 ?d_eF5 ?_
    case c_eF5 => exact scansionref07_figure_runs x.Rune eF5
    case d_eF5 => rfl
    refine A_ops_end ?_
    refine w_n ?_
    refine w_seq ?_
    refine w_joinR (sj := ⟨[(0, .cv (.val (.sl (List.map eUnit l)))), (1, .cv (.val (.int .i64 i1))), (7, .cv (.val (.int .i64 n))), (8, .cv (.val (.int .i64 many))), (9, .cv (.val (.int .i64 r))), (26, .cv (.val (.bool ((decide (r < (0 : Int))) || (many == (6 : Int))))))], h.on []⟩) (A_ops ?_) ?_
    · refine A_upto 3 ?_
      rcases Bool.eq_false_or_eq_true (decide (r < (0 : Int))) with cF6 | cF6
      · refine A_ops_end ?_
        exact w_k (A_cut hwf)
      · refine A_ops_end ?_
        exact w_k (A_cut hwf)
    refine A_condH hr (fun cF7 hr => ?_) (fun cF7 hr => ?_)
    · refine w_seq ?_
      refine w_joinR (sj := ⟨[(1, .cv (.val (.int .i64 i1))), (7, .cv (.val (.int .i64 n))), (36, .cv (.val (.bool ((x.Rune == (125 : Int)) && (decide (many > (0 : Int)))))))], h.on []⟩) (A_ops ?_) ?_
      · refine A_upto 7 ?_
        rcases Bool.eq_false_or_eq_true (x.Rune == (125 : Int)) with cF8 | cF8
        · refine A_ops_end ?_
          exact w_k (A_cut hwf)
        · refine A_ops_end ?_
          exact w_k (A_cut hwf)
      refine A_condH hr (fun cF9 hr => ?_) (fun cF9 hr => ?_)
      · refine w_seq ?_
        refine A_region ?_
        refine w_n ?_
        refine w_ret ?_
        obtain rfl := hD _ hr
        exact (w_tr (w_tr (w_br (w_tr (w_br (A_endR (A_cut (os' := []) (sl := [(4, .cv (.val (.int .i64 n))), (5, .cv (.val (.int .i64 (IntKind.i64.wrap (i1 + (1 : Int)))))), (6, .cv (.val (.int .i64 (0 : Int))))]) hwf) ⟨rfl, on_nil hwf⟩))))))
      · refine w_skip ?_
        refine w_n ?_
        refine w_seq ?_
        refine A_region ?_
        refine w_n ?_
        refine w_ret ?_
        obtain rfl := hD _ hr
        exact (w_tr (w_br (w_tr (w_br (A_endR (A_cut (os' := []) (sl := [(4, .cv (.val (.int .i64 (0 : Int)))), (5, .cv (.val (.int .i64 i1))), (6, .cv (.val (.int .i64 (6 : Int))))]) hwf) ⟨rfl, on_nil hwf⟩)))))
    · refine w_skip ?_
      refine w_n ?_
      refine w_seq ?_
      refine A_region ?_
      refine w_n ?_
      refine w_seq ?_
      refine A_region ?_
      refine w_n ?_
      refine A_region ?_
      exact (w_bn (w_k ⟨((IntKind.i64.wrap (i1 + (1 : Int))), (IntKind.i64.wrap ((IntKind.i64.wrap (n * (16 : Int))) + r)), (IntKind.i64.wrap (many + (1 : Int)))), hr, (A_cut hwf)⟩))
end Go.Val

/- part IW86 -/
/- scansion/scansionref07.letter runs as it is read off. -/
namespace Go.Val
set_option linter.unusedVariables false
set_option linter.unusedSimpArgs false
set_option maxRecDepth 20000
open Go.Proofs
theorem scansionref07_letter_runs (l : List TUnit) (i : Int) {h : Heap} {a : (Int × Int × Int)} (e : scansionref07_letter l i = some a) :
    Runs CT 86 [.cv (.val (.sl (List.map eUnit l))), .cv (.val (.int .i64 i))] h fun o h' => o = [.cv (.val (.int .i64 a.1)), .cv (.val (.int .i64 a.2.1)), .cv (.val (.int .i64 a.2.2))] ∧ h' = h := by
  refine Runs.start Try.f86 _ Try.func86 rfl (by rw [Try.ntmps86]; simp) (by rfl) (by rfl) (fun hwf hu => ?_)
  obtain ⟨D, hD, hr⟩ : ∃ D : (Int × Int × Int) → Prop, (∀ z, D z → z = a) ∧ Holds (scansionref07_letter l i) D := ⟨fun z => z = a, fun _ h => h, Holds.intro e rfl⟩
  dsimp only [scansionref07_letter] at hr
  change wpCode _ _ _ _ _ ⟨[(0, .cv (.val (.sl (List.map eUnit l)))), (1, .cv (.val (.int .i64 i)))], h.on []⟩
  refine w_seq ?_
  refine A_region ?_
  refine w_n ?_
  refine w_seq ?_
  refine w_seq ?_
  refine A_region ?_
  refine w_n ?_
  refine A_condH hr (fun cF1 hr => ?_) (fun cF1 hr => ?_)
  · refine w_seq ?_
    refine A_region ?_
    refine w_n ?_
    refine w_ret ?_
    obtain rfl := hD _ hr
    exact (w_tr (A_endR (A_cut (os' := []) (sl := [(4, .cv (.val (.int .i64 (0 : Int)))), (5, .cv (.val (.int .i64 i))), (6, .cv (.val (.int .i64 (7 : Int))))]) hwf) ⟨rfl, on_nil hwf⟩))
  · refine w_skip ?_
    refine w_n ?_
    refine w_seq ?_
    obtain ⟨x, nF2, eF3, gF4, hr⟩ := hr.idx
    refine A_region ?_
    refine w_n ?_
    refine w_seq ?_
    obtain ⟨v, vF9, hr⟩ := hr.bind
    refine w_joinR (sj := ⟨[(0, .cv (.val (.sl (List.map eUnit l)))), (1, .cv (.val (.int .i64 i))), (7, .cv (.val (.int .i64 x.Rune))), (34, .cv (.val (.bool v)))], h.on []⟩) (A_ops ?_) ?_
    · have hr := Holds.intro (D := fun z => z = v) vF9 rfl
      refine A_upto 6 ?_
      rcases hr.ite with ⟨cF5, hr⟩ | ⟨cF5, hr⟩
      · refine A_upto 5 ?_
        refine A_off ?_
        refine A_ops_end ?_
        obtain rfl : _ = v := hr
        exact w_k (A_cut hwf)
      · refine A_upto 4 ?_
        rcases hr.ite with ⟨cF6, hr⟩ | ⟨cF6, hr⟩
        · refine A_upto 1 ?_
          refine A_off ?_
          refine A_ops_end ?_
          obtain rfl : _ = v := hr
          exact w_k (A_cut hwf)
        · refine A_upto 1 ?_
          obtain ⟨r, eF7, hr⟩ := hr.bind
          refine w_call' (out := ?o_eF7) (hp := ?p_eF7) (by simp (disch := (apply Apart.mk; decide)) only [go_sem, Nat.reduceAdd, Nat.reduceLT, Nat.reduceMul, Nat.reduceLeDiff, Int.reduceToNat, Int.reduceLT, Int.reduceLE, Option.getD_some, nF2, eF3, gF4, cF5, cF6]) (by simp (disch := (apply Apart.mk; decide)) only [go_sem, Nat.reduceAdd, Nat.reduceLT, Nat.reduceMul, Nat.reduceLeDiff, Int.reduceToNat, Int.reduceLT, Int.reduceLE, Option.getD_some, nF2, eF3, gF4, cF5, cF6]; rfl) (by simp (disch := (apply Apart.mk; decide)) only [go_sem, Nat.reduceAdd, Nat.reduceLT, Nat.reduceMul, Nat.reduceLeDiff, Int.reduceToNat, Int.reduceLT, Int.reduceLE, Option.getD_some, nF2, eF3, gF4, cF5, cF6]; rfl) (by simp (disch := (apply Apart.mk; decide)) only [go_sem, Nat.reduceAdd, Nat.reduceLT, Nat.reduceMul, Nat.reduceLeDiff, Int.reduceToNat, Int.reduceLT, Int.reduceLE, Option.getD_some, nF2, eF3, gF4, cF5, cF6]; rfl) ?c_eF7 ?d_eF7 ?_
          case c_eF7 => exact scansionref07_special_runs x.Rune eF7
          case d_eF7 => rfl
          refine A_upto 1 ?_
          rcases hr.ite with ⟨cF8, hr⟩ | ⟨cF8, hr⟩
          · refine A_ops_end ?_
            obtain rfl : _ = v := hr
            exact w_k (A_cut hwf)
          · refine A_ops_end ?_
            obtain rfl : _ = v := hr
            exact w_k (A_cut hwf)
    refine A_condH hr (fun cF10 hr => ?_) (fun cF10 hr => ?_)
    · refine w_seq ?_
      refine A_region ?_
      refine w_n ?_
      refine w_ret ?_
      obtain rfl := hD _ hr
      exact (w_tr (A_endR (A_cut (os' := []) (sl := [(4, .cv (.val (.int .i64 (0 : Int)))), (5, .cv (.val (.int .i64 i))), (6, .cv (.val (.int .i64 (6 : Int))))]) hwf) ⟨rfl, on_nil hwf⟩))
    · refine w_skip ?_
      refine w_n ?_
      refine w_seq ?_
      refine w_seq ?_
      refine A_region ?_
      refine w_n ?_
      refine A_condH hr (fun cF11 hr => ?_) (fun cF11 hr => ?_)
      · refine w_seq ?_
        refine A_region ?_
        refine w_n ?_
        refine w_ret ?_
        obtain rfl := hD _ hr
        exact (w_tr (A_endR (A_cut (os' := []) (sl := [(4, .cv (.val (.int .i64 x.Rune))), (5, .cv (.val (.int .i64 (IntKind.i64.wrap (i + (1 : Int)))))), (6, .cv (.val (.int .i64 (0 : Int))))]) hwf) ⟨rfl, on_nil hwf⟩))
      · refine w_skip ?_
        refine w_n ?_
        refine w_seq ?_
        refine w_seq ?_
        refine A_region ?_
        refine w_n ?_
        refine A_condH hr (fun cF12 hr => ?_) (fun cF12 hr => ?_)
        · refine w_seq ?_
          refine A_region ?_
          refine w_n ?_
          refine w_ret ?_
          obtain rfl := hD _ hr
          exact (w_tr (A_endR (A_cut (os' := []) (sl := [(4, .cv (.val (.int .i64 (0 : Int)))), (5, .cv (.val (.int .i64 (IntKind.i64.wrap (i + (1 : Int)))))), (6, .cv (.val (.int .i64 (7 : Int))))]) hwf) ⟨rfl, on_nil hwf⟩))
        · refine w_skip ?_
          refine w_n ?_
          refine w_seq ?_
          obtain ⟨x1, nF13, eF14, gF15, hr⟩ := hr.idx
          refine A_region ?_
          refine w_n ?_
          refine w_seq ?_
          refine w_seq ?_
          refine A_ops ?_
          refine A_upto 1 ?_
          obtain ⟨r1, eF16, hr⟩ := hr.bind
          refine A_call (out := ?o_eF16) (hp := ?p_eF16) ?c_eF16 ?d_eF16 ?_
          case c_eF16 => exact scansionref07_special_runs x1.Rune eF16
          case d_eF16 => rfl
          refine w_ops_nil ?_
          refine w_n ?_
          refine A_condH hr (fun cF17 hr => ?_) (fun cF17 hr => ?_)
          · refine w_seq ?_
            refine A_region ?_
            refine w_n ?_
            refine w_ret ?_
            obtain rfl := hD _ hr
            exact (w_tr (A_endR (A_cut (os' := []) (sl := [(4, .cv (.val (.int .i64 x1.Rune))), (5, .cv (.val (.int .i64 (IntKind.i64.wrap (i + (2 : Int)))))), (6, .cv (.val (.int .i64 (0 : Int))))]) hwf) ⟨rfl, on_nil hwf⟩))
          · refine w_skip ?_
            refine w_n ?_
            refine w_seq ?_
            refine w_seq ?_
            refine A_region ?_
            refine w_n ?_
            refine A_condH hr (fun cF18 hr => ?_) (fun cF18 hr => ?_)
            · refine w_seq ?_
              refine A_region ?_
              refine w_n ?_
              refine w_ret ?_
              obtain rfl := hD _ hr
              exact (w_tr (A_endR (A_cut (os' := []) (sl := [(4, .cv (.val (.int .i64 (0 : Int)))), (5, .cv (.val (.int .i64 (IntKind.i64.wrap (i + (1 : Int)))))), (6, .cv (.val (.int .i64 (6 : Int))))]) hwf) ⟨rfl, on_nil hwf⟩))
            · refine w_skip ?_
              refine w_n ?_
              refine w_seq ?_
              refine w_seq ?_
              refine A_region ?_
              refine w_n ?_
              refine A_condH hr (fun cF19 hr => ?_) (fun cF19 hr => ?_)
              · refine w_seq ?_
                refine A_region ?_
                refine w_n ?_
                refine w_ret ?_
                obtain rfl := hD _ hr
                exact (w_tr (A_endR (A_cut (os' := []) (sl := [(4, .cv (.val (.int .i64 (0 : Int)))), (5, .cv (.val (.int .i64 (IntKind.i64.wrap (i + (2 : Int)))))), (6, .cv (.val (.int .i64 (7 : Int))))]) hwf) ⟨rfl, on_nil hwf⟩))
              · refine w_skip ?_
                refine w_n ?_
                refine w_seq ?_
                refine w_seq ?_
                obtain ⟨x2, nF20, eF21, gF22, hr⟩ := hr.idx
                refine A_region ?_
                refine w_n ?_
                refine A_condH hr (fun cF23 hr => ?_) (fun cF23 hr => ?_)
                · refine w_seq ?_
                  refine A_region ?_
                  refine w_n ?_
                  refine w_ret ?_
                  obtain rfl := hD _ hr
                  exact (w_tr (A_endR (A_cut (os' := []) (sl := [(4, .cv (.val (.int .i64 (0 : Int)))), (5, .cv (.val (.int .i64 (IntKind.i64.wrap (i + (2 : Int)))))), (6, .cv (.val (.int .i64 (6 : Int))))]) hwf) ⟨rfl, on_nil hwf⟩))
                · refine w_skip ?_
                  refine w_n ?_
                  refine w_seq ?_
                  refine A_ops ?_
                  refine A_upto 3 ?_
                  obtain ⟨r2, eF24, hr⟩ := hr.bind
                  refine A_call (out := ?o_eF24) (hp := ?p_eF24) ?c_eF24 ?d_eF24 ?_
                  case c_eF24 => exact scansionref07_number_runs l (IntKind.i64.wrap (i + (3 : Int))) eF24
                  case d_eF24 => rfl
                  refine A_ops_end ?_
                  refine w_n ?_
                  refine w_ret ?_
                  obtain rfl := hD _ hr
                  exact (A_endR (A_cut (os' := []) (sl := [(4, .cv (.val (.int .i64 r2.1))), (5, .cv (.val (.int .i64 r2.2.1))), (6, .cv (.val (.int .i64 r2.2.2)))]) hwf) ⟨rfl, on_nil hwf⟩)
end Go.Val

/- part IW52 -/
/- scansion/scansionref07.set runs as it is read off. -/
namespace Go.Val
set_option linter.unusedVariables false
set_option linter.unusedSimpArgs false
set_option maxRecDepth 20000
open Go.Proofs
theorem scansionref07_set_runs (l : List TUnit) (i : Int) {h : Heap} {a : (List TRange × Int × Int)} (e : scansionref07_set l i = some a) :
    Runs CT 52 [.cv (.val (.sl (List.map eUnit l))), .cv (.val (.int .i64 i))] h fun o h' => o = [.cv (.val (.sl (List.map eRange a.1))), .cv (.val (.int .i64 a.2.1)), .cv (.val (.int .i64 a.2.2))] ∧ h' = h := by
  refine Runs.start Try.f52 _ Try.func52 rfl (by rw [Try.ntmps52]; simp) (by rfl) (by rfl) (fun hwf hu => ?_)
  obtain ⟨D, hD, hr⟩ : ∃ D : (List TRange × Int × Int) → Prop, (∀ z, D z → z = a) ∧ Holds (scansionref07_set l i) D := ⟨fun z => z = a, fun _ h => h, Holds.intro e rfl⟩
  dsimp only [scansionref07_set] at hr
  change wpCode _ _ _ _ _ ⟨[(0, .cv (.val (.sl (List.map eUnit l)))), (1, .cv (.val (.int .i64 i)))], h.on []⟩
  refine w_seq ?_
  refine A_region ?_
  refine w_n ?_
  refine w_seq ?_
  refine A_region ?_
  refine w_n ?_
  refine w_block ?_
  refine w_Loop (fun xX : (Int × List TRange) => ⟨[(0, .cv (.val (.sl (List.map eUnit l)))), (1, .cv (.val (.int .i64 xX.1))), (7, .cv (.row 80 (List.map eRange xX.2)))], h.on []⟩) hr (A_cut hwf) (fun W1 xX hr => ?_)
  obtain ⟨i1, out⟩ := xX
  dsimp only [scansionref07_set.b1] at hr
  refine w_block ?_
  refine w_seq ?_
  refine w_seq ?_
  refine A_region ?_
  refine w_n ?_
  refine A_condH hr (fun cF1 hr => ?_) (fun cF1 hr => ?_)
  · refine w_seq ?_
    refine A_region ?_
    refine w_n ?_
    refine w_ret ?_
    obtain rfl := hD _ hr
    exact (w_tr (w_br (w_tr (w_br (A_endR (A_cut (os' := []) (sl := [(4, .cv (.val (.sl (List.map eRange ([] : List TRange))))), (5, .cv (.val (.int .i64 i1))), (6, .cv (.val (.int .i64 (7 : Int))))]) hwf) ⟨rfl, on_nil hwf⟩)))))
  · refine w_skip ?_
    refine w_n ?_
    refine w_seq ?_
    refine w_seq ?_
    obtain ⟨x, nF2, eF3, gF4, hr⟩ := hr.idx
    refine A_region ?_
    refine w_n ?_
    refine A_condH hr (fun cF5 hr => ?_) (fun cF5 hr => ?_)
    · refine w_seq ?_
      refine A_ops ?_
      refine A_upto 1 ?_
      obtain ⟨r, eF6, hr⟩ := hr.bind
      refine A_call (out := ?o_eF6) (hp := ?p_eF6) ?c_eF6 ?d_eF6 ?_
      case c_eF6 => exact scansionref02_Make_runs out eF6
      case d_eF6 => rfl
      refine A_ops_end ?_
      refine w_n ?_
      refine w_seq ?_
      refine A_region ?_
      refine w_n ?_
      refine w_ret ?_
      obtain rfl := hD _ hr
      exact (w_tr (w_br (w_tr (w_br (A_endR (A_cut (os' := []) (sl := [(4, .cv (.val (.sl (List.map eRange r.1)))), (5, .cv (.val (.int .i64 (IntKind.i64.wrap (i1 + (1 : Int)))))), (6, .cv (.val (.int .i64 (0 : Int))))]) hwf) ⟨rfl, on_nil hwf⟩)))))
    · refine w_skip ?_
      refine w_n ?_
      refine w_seq ?_
      refine A_ops ?_
      refine A_upto 2 ?_
      obtain ⟨r1, eF7, hr⟩ := hr.bind
      refine A_call (out := ?o_eF7) (hp := ?p_eF7) ?c_eF7 ?d_eF7 ?_
      case c_eF7 => exact scansionref07_letter_runs l i1 eF7
      case d_eF7 => rfl
      refine A_ops_end ?_
      refine w_n ?_
      refine w_seq ?_
      refine w_seq ?_
      refine A_region ?_
      refine w_n ?_
      refine A_condH hr (fun cF8 hr => ?_) (fun cF8 hr => ?_)
      · refine w_seq ?_
        refine A_region ?_
        refine w_n ?_
        refine w_ret ?_
        obtain rfl := hD _ hr
        exact (w_tr (w_br (w_tr (w_br (A_endR (A_cut (os' := []) (sl := [(4, .cv (.val (.sl (List.map eRange ([] : List TRange))))), (5, .cv (.val (.int .i64 r1.2.1))), (6, .cv (.val (.int .i64 r1.2.2)))]) hwf) ⟨rfl, on_nil hwf⟩)))))
      · refine w_skip ?_
        refine w_n ?_
        refine w_seq ?_
        refine A_region ?_
        refine w_n ?_
        refine w_seq ?_
        obtain ⟨v, vF13, hr⟩ := hr.bind
        refine w_joinR (sj := ⟨[(0, .cv (.val (.sl (List.map eUnit l)))), (1, .cv (.val (.int .i64 i1))), (7, .cv (.row 80 (List.map eRange out))), (10, .cv (.val (.int .i64 r1.1))), (11, .cv (.val (.int .i64 r1.2.1))), (13, .cv (.val (.int .i64 r1.1))), (56, .cv (.val (.bool v)))], h.on []⟩) (A_ops ?_) ?_
        · have hr := Holds.intro (D := fun z => z = v) vF13 rfl
          refine A_upto 5 ?_
          rcases hr.ite with ⟨cF9, hr⟩ | ⟨cF9, hr⟩
          · obtain ⟨x1, nF10, eF11, gF12, hr⟩ := hr.idx
            refine A_ops_end ?_
            obtain rfl : _ = v := hr
            exact w_k (A_cut hwf)
          · refine A_ops_end ?_
            obtain rfl : _ = v := hr
            exact w_k (A_cut hwf)
        refine w_K (D := (Aft W1 D)) (fun xX : (Int × Int) => ⟨[(0, .cv (.val (.sl (List.map eUnit l)))), (1, .cv (.val (.int .i64 i1))), (7, .cv (.row 80 (List.map eRange out))), (10, .cv (.val (.int .i64 r1.1))), (11, .cv (.val (.int .i64 xX.1))), (13, .cv (.val (.int .i64 xX.2)))], h.on []⟩) (fun xX : (Int × Int) => scansionref07_set.k1 i1 out r1 xX.1 xX.2) (fun xX s' hr ht => ?_) ?_
        · obtain ⟨k, high⟩ := xX
          dsimp only [scansionref07_set.k1] at hr ht
          refine (w_nT ht ?_)
          refine w_seq ?_
          refine w_joinR (sj := ⟨[(0, .cv (.val (.sl (List.map eUnit l)))), (1, .cv (.val (.int .i64 i1))), (7, .cv (.row 80 (List.map eRange out))), (10, .cv (.val (.int .i64 r1.1))), (11, .cv (.val (.int .i64 k))), (13, .cv (.val (.int .i64 high))), (79, .cv (.val (.bool ((decide (r1.1 > (1114111 : Int))) || ((decide (high > (1114111 : Int))) || (decide (r1.1 > high)))))))], h.on []⟩) (A_ops ?_) ?_
          · refine A_upto 3 ?_
            rcases Bool.eq_false_or_eq_true (decide (r1.1 > (1114111 : Int))) with cF14 | cF14
            · refine A_ops_end ?_
              exact w_k (A_cut hwf)
            · refine A_upto 4 ?_
              rcases Bool.eq_false_or_eq_true (decide (high > (1114111 : Int))) with cF15 | cF15
              · refine A_ops_end ?_
                exact w_k (A_cut hwf)
              · refine A_ops_end ?_
                exact w_k (A_cut hwf)
          refine A_condH hr (fun cF16 hr => ?_) (fun cF16 hr => ?_)
          · refine w_seq ?_
            refine A_region ?_
            refine w_n ?_
            refine w_ret ?_
            obtain rfl := hD _ hr
            exact (w_tr (w_br (w_tr (w_br (A_endR (A_cut (os' := []) (sl := [(4, .cv (.val (.sl (List.map eRange ([] : List TRange))))), (5, .cv (.val (.int .i64 i1))), (6, .cv (.val (.int .i64 (1 : Int))))]) hwf) ⟨rfl, on_nil hwf⟩)))))
          · refine w_skip ?_
            refine w_n ?_
            refine w_seq ?_
            obtain ⟨nF17, hr⟩ := hr.room
            refine A_region ?_
            refine w_n ?_
            refine A_region ?_
            exact (w_bn (w_k ⟨(k, (out ++ ([(TRange.mk r1.1 high)]))), hr, (A_cut hwf)⟩))
        · refine A_condH hr (fun cF18 hr => ?_) (fun cF18 hr => ?_)
          · refine w_seq ?_
            refine A_ops ?_
            refine A_upto 3 ?_
            obtain ⟨r2, eF19, hr⟩ := hr.bind
            refine A_call (out := ?o_eF19) (hp := ?p_eF19) ?c_eF19 ?d_eF19 ?_
            case c_eF19 => exact scansionref07_letter_runs l (IntKind.i64.wrap (r1.2.1 + (1 : Int))) eF19
            case d_eF19 => rfl
            refine A_ops_end ?_
            refine w_n ?_
            refine w_seq ?_
            refine A_region ?_
            refine w_n ?_
            refine A_condH hr (fun cF20 hr => ?_) (fun cF20 hr => ?_)
            · refine w_seq ?_
              refine A_region ?_
              refine w_n ?_
              refine w_ret ?_
              obtain rfl := hD _ hr
              exact (w_tr (w_tr (w_br (w_tr (w_br (A_endR (A_cut (os' := []) (sl := [(4, .cv (.val (.sl (List.map eRange ([] : List TRange))))), (5, .cv (.val (.int .i64 r2.2.1))), (6, .cv (.val (.int .i64 r2.2.2)))]) hwf) ⟨rfl, on_nil hwf⟩))))))
            · refine w_skip ?_
              exact (w_k ⟨(r2.2.1, r2.1), hr, (A_cut hwf)⟩)
          · refine w_skip ?_
            exact (w_k ⟨(r1.2.1, r1.1), hr, (A_cut hwf)⟩)
end Go.Val

/- part IW53 -/
/- scansion/scansionref07.sign runs as it is read off. -/
namespace Go.Val
set_option linter.unusedVariables false
set_option linter.unusedSimpArgs false
set_option maxRecDepth 20000
open Go.Proofs
theorem scansionref07_sign_runs (r : Int) {h : Heap} {a : Bool} (e : scansionref07_sign r = some a) :
    Runs CT 53 [.cv (.val (.int .i64 r))] h fun o h' => o = [.cv (.val (.bool a))] ∧ h' = h := by
  refine Runs.start Try.f53 _ Try.func53 rfl (by rw [Try.ntmps53]; simp) (by rfl) (by rfl) (fun hwf hu => ?_)
  obtain ⟨D, hD, hr⟩ : ∃ D : Bool → Prop, (∀ z, D z → z = a) ∧ Holds (scansionref07_sign r) D := ⟨fun z => z = a, fun _ h => h, Holds.intro e rfl⟩
  dsimp only [scansionref07_sign] at hr
  change wpCode _ _ _ _ _ ⟨[(0, .cv (.val (.int .i64 r)))], h.on []⟩
  refine w_seq ?_
  refine A_region ?_
  refine w_n ?_
  refine w_seq ?_
  refine A_region ?_
  refine w_n ?_
  refine w_seq ?_
  refine w_seq ?_
  refine A_region ?_
  refine w_n ?_
  refine w_K (D := D) (fun xX : Unit => ⟨[], h.on []⟩) (fun xX : Unit => scansionref07_sign.k1) (fun xX s' hr ht => ?_) ?_
  · dsimp only [scansionref07_sign.k1] at hr ht
    refine (w_nT ht ?_)
    refine w_seq ?_
    refine A_region ?_
    refine w_n ?_
    refine w_ret ?_
    obtain rfl := hD _ hr
    exact (A_endR (A_cut (os' := []) (sl := [(2, .cv (.val (.bool false)))]) hwf) ⟨rfl, on_nil hwf⟩)
  · refine w_block ?_
    refine w_Loop (fun xX : Int => ⟨[(0, .cv (.val (.int .i64 r))), (3, .cv (.val (.sl (List.map eU ([(u8 (61 : Int)), (u8 (59 : Int)), (u8 (47 : Int)), (u8 (124 : Int)), (u8 (42 : Int)), (u8 (43 : Int)), (u8 (63 : Int)), (u8 (40 : Int)), (u8 (41 : Int)), (u8 (46 : Int)), (u8 (126 : Int)), (u8 (38 : Int)), (u8 (45 : Int))]))))), (4, .cv (.val (.int .i64 xX)))], h.on []⟩) hr (A_cut hwf) (fun W1 xX hr => ?_)
    obtain ⟨i, rfl⟩ : ∃ z, z = xX := ⟨xX, rfl⟩
    dsimp only [scansionref07_sign.b1] at hr
    refine w_seq ?_
    refine w_seq ?_
    refine A_region ?_
    refine w_n ?_
    refine A_condH hr (fun cF1 hr => ?_) (fun cF1 hr => ?_)
    · refine w_skip ?_
      refine w_n ?_
      refine w_seq ?_
      refine w_block ?_
      refine w_seq ?_
      (obtain ⟨n, nF2, eF3, gF4, hr⟩ := hr.idx; replace eF3 := congrArg (Option.map eU) eF3; rw [← List.getElem?_map] at eF3; try simp (disch := (apply Apart.mk; decide)) only [go_sem, List.map_cons, List.map_nil, Option.map_some, List.length_cons, List.length_nil, Nat.reduceAdd] at nF2 eF3 gF4)
      refine A_region ?_
      refine w_n ?_
      refine A_condH hr (fun cF5 hr => ?_) (fun cF5 hr => ?_)
      · refine w_seq ?_
        refine A_region ?_
        refine w_n ?_
        refine w_ret ?_
        obtain rfl := hD _ hr
        exact (w_br (w_tr (w_tr (w_br (w_tr (w_tr (A_endR (A_cut (os' := []) (sl := [(2, .cv (.val (.bool true)))]) hwf) ⟨rfl, on_nil hwf⟩)))))))
      · refine w_skip ?_
        refine (w_bn (w_n ?_))
        refine A_region ?_
        exact (w_k ⟨(IntKind.i64.wrap (i + (1 : Int))), hr, (A_cut hwf)⟩)
    · refine w_exit ?_
      exact (w_te (w_te (w_bx (w_k ⟨(), (hr).map, (A_cut hwf)⟩))))
end Go.Val

/- part IW16 -/
/- scansion/scansionref07.Tokens runs as it is read off. -/
namespace Go.Val
set_option linter.unusedVariables false
set_option linter.unusedSimpArgs false
set_option maxRecDepth 20000
open Go.Proofs
theorem scansionref07_Tokens_runs (b : List UInt8) {h : Heap} {a : (List TToken × Int × Int)} (e : scansionref07_Tokens b = some a) :
    Runs CT 16 [.cv (.val (.sl (List.map eU b)))] h fun o h' => o = [.cv (.val (.sl (List.map eToken a.1))), .cv (.val (.int .i64 a.2.1)), .cv (.val (.int .i64 a.2.2))] ∧ h' = h := by
  refine Runs.start Try.f16 _ Try.func16 rfl (by rw [Try.ntmps16]; simp) (by rfl) (by rfl) (fun hwf hu => ?_)
  obtain ⟨D, hD, hr⟩ : ∃ D : (List TToken × Int × Int) → Prop, (∀ z, D z → z = a) ∧ Holds (scansionref07_Tokens b) D := ⟨fun z => z = a, fun _ h => h, Holds.intro e rfl⟩
  dsimp only [scansionref07_Tokens] at hr
  change wpCode _ _ _ _ _ ⟨[(0, .cv (.val (.sl (List.map eU b))))], h.on []⟩
  refine w_seq ?_
  refine A_region ?_
  refine w_n ?_
  refine w_seq ?_
  refine w_seq ?_
  refine A_region ?_
  refine w_n ?_
  refine A_condH hr (fun cF1 hr => ?_) (fun cF1 hr => ?_)
  · refine w_seq ?_
    refine A_region ?_
    refine w_n ?_
    refine w_ret ?_
    obtain rfl := hD _ hr
    exact (w_tr (A_endR (A_cut (os' := []) (sl := [(2, .cv (.val (.sl (List.map eToken ([] : List TToken))))), (3, .cv (.val (.int .i64 (0 : Int)))), (4, .cv (.val (.int .i64 (3 : Int))))]) hwf) ⟨rfl, on_nil hwf⟩))
  · refine w_skip ?_
    refine w_n ?_
    refine w_seq ?_
    refine A_ops ?_
    refine A_upto 1 ?_
    obtain ⟨r, eF2, hr⟩ := hr.bind
    refine A_call (out := ?o_eF2) (hp := ?p_eF2) ?c_eF2 ?d_eF2 ?_
    case c_eF2 => exact scansionref01_Decode_runs b eF2
    case d_eF2 => rfl
    refine A_ops_end ?_
    refine w_n ?_
    refine w_seq ?_
    refine A_region ?_
    refine w_n ?_
    refine w_seq ?_
    refine A_ops ?_
    refine A_upto 1 ?_
    obtain ⟨r1, eF3, hr⟩ := hr.bind
    refine A_call (out := ?o_eF3) (hp := ?p_eF3) ?c_eF3 ?d_eF3 ?_
    case c_eF3 => exact scansionref07_blank_runs r (0 : Int) eF3
    case d_eF3 => rfl
    refine A_ops_end ?_
    refine w_n ?_
    refine w_seq ?_
    refine w_K (D := D) (fun xX : List TToken => ⟨[(0, .cv (.val (.sl (List.map eU b)))), (6, .cv (.row 33 (List.map eToken xX)))], h.on []⟩) (fun xX : List TToken => scansionref07_Tokens.k1 b xX) (fun xX s' hr ht => ?_) ?_
    · obtain ⟨out, rfl⟩ : ∃ z, z = xX := ⟨xX, rfl⟩
      dsimp only [scansionref07_Tokens.k1] at hr ht
      refine (w_nT ht ?_)
      refine w_seq ?_
      obtain ⟨nF4, hr⟩ := hr.room
      refine A_region ?_
      refine w_n ?_
      refine w_ret ?_
      obtain rfl := hD _ hr
      exact (A_endR (.fix _ _ (.slot 2) 33 _ (by simp (disch := (apply Apart.mk; decide)) only [go_sem, Nat.reduceAdd, Nat.reduceLT, Nat.reduceMul, Nat.reduceLeDiff, Int.reduceToNat, Int.reduceLT, Int.reduceLE, cF1]; rfl) (A_cut (os' := []) (sl := [(2, .cv (.val (.sl (List.map eToken (out ++ ([(TToken.mk (4 : Int) (b.length : Int) ([] : Str) [])])))))), (3, .cv (.val (.int .i64 (0 : Int)))), (4, .cv (.val (.int .i64 (0 : Int))))]) hwf)) ⟨rfl, on_nil hwf⟩)
    · refine w_block ?_
      refine w_Loop (fun xX : (List TToken × Int) => ⟨[(0, .cv (.val (.sl (List.map eU b)))), (5, .cv (.val (.sl (List.map eUnit r)))), (6, .cv (.row 33 (List.map eToken xX.1))), (7, .cv (.val (.int .i64 xX.2)))], h.on []⟩) hr (A_cut hwf) (fun W1 xX hr => ?_)
      obtain ⟨out1, i⟩ := xX
      dsimp only [scansionref07_Tokens.b1] at hr
      refine w_seq ?_
      refine w_seq ?_
      refine A_region ?_
      refine w_n ?_
      refine A_condH hr (fun cF5 hr => ?_) (fun cF5 hr => ?_)
      · refine w_skip ?_
        refine w_n ?_
        refine w_K (D := (Aft W1 D)) (fun xX : (List TToken × Int) => ⟨[(0, .cv (.val (.sl (List.map eU b)))), (5, .cv (.val (.sl (List.map eUnit r)))), (6, .cv (.row 33 (List.map eToken xX.1))), (7, .cv (.val (.int .i64 xX.2)))], h.on []⟩) (fun xX : (List TToken × Int) => scansionref07_Tokens.k2 xX.1 xX.2) (fun xX s' hr ht => ?_) ?_
        · obtain ⟨out2, i1⟩ := xX
          dsimp only [scansionref07_Tokens.k2] at hr ht
          exact (w_k ⟨(out2, i1), hr, (To.trans ht (A_cut hwf))⟩)
        · refine w_block ?_
          refine w_seq ?_
          obtain ⟨x, nF6, eF7, gF8, hr⟩ := hr.idx
          refine A_region ?_
          refine w_n ?_
          refine w_seq ?_
          refine A_region ?_
          refine w_n ?_
          refine w_seq ?_
          refine A_region ?_
          refine w_n ?_
          refine w_seq ?_
          refine w_K (D := (Aft W1 D)) (fun xX : (Int × Int × Str × List TRange) => ⟨[(0, .cv (.val (.sl (List.map eU b)))), (5, .cv (.val (.sl (List.map eUnit r)))), (6, .cv (.row 33 (List.map eToken out1))), (9, .cv (.val (.ptr (some (h.n + 0, 0))))), (10, .cv (.val (.int .i64 xX.1)))], h.on [some (.cells [.val (.int .i64 xX.2.1), .val (.int .i64 x.At), .val (.str (bs xX.2.2.1)), .val (.sl (List.map eRange xX.2.2.2))])]⟩) (fun xX : (Int × Int × Str × List TRange) => scansionref07_Tokens.k3 r out1 x xX.1 xX.2.1 xX.2.2.1 xX.2.2.2) (fun xX s' hr ht => ?_) ?_
          · obtain ⟨k, Kind, Text, Set⟩ := xX
            dsimp only [scansionref07_Tokens.k3] at hr ht
            refine (w_nT ht ?_)
            refine w_seq ?_
            obtain ⟨nF9, hr⟩ := hr.room
            refine A_region ?_
            refine w_n ?_
            refine A_ops ?_
            refine A_upto 2 ?_
            obtain ⟨r2, eF10, hr⟩ := hr.bind
            refine A_call (out := ?o_eF10) (hp := ?p_eF10) ?c_eF10 ?d_eF10 ?_
            case c_eF10 => exact scansionref07_blank_runs r k eF10
            case d_eF10 => rfl
            refine A_ops_end ?_
            exact (w_bn (w_k ⟨((out1 ++ ([(TToken.mk Kind x.At Text Set)])), r2), hr, (A_cut hwf)⟩))
          · refine w_block ?_
            refine w_seq ?_
            refine A_region ?_
            refine w_n ?_
            refine A_condH hr (fun cF11 hr => ?_) (fun cF11 hr => ?_)
            · refine w_seq ?_
              refine w_drawn [0, 1, 2, 3, 4, 5, 6, 7] (by rfl) ?_
              refine p_run (l := [0, 1, 2, 3, 4]) (pend' := [4, 3, 2, 1, 0]) (by simp (disch := (apply Apart.mk; decide)) only [go_sem, Nat.reduceAdd, Nat.reduceLT, Nat.reduceMul, Nat.reduceLeDiff, Int.reduceToNat, Int.reduceLT, Int.reduceLE, nF6, eF7, gF8]; rfl) rfl ?_
              refine p_op (pend' := [4, 3, 2, 1, 0]) rfl (by simp (disch := (apply Apart.mk; decide)) only [go_sem, Nat.reduceAdd, Nat.reduceLT, Nat.reduceMul, Nat.reduceLeDiff, Int.reduceToNat, Int.reduceLT, Int.reduceLE, nF6, eF7, gF8]) (by simp (disch := (apply Apart.mk; decide)) only [go_sem, Nat.reduceAdd, Nat.reduceLT, Nat.reduceMul, Nat.reduceLeDiff, Int.reduceToNat, Int.reduceLT, Int.reduceLE, nF6, eF7, gF8]; rfl) (by rfl) ?_
              refine p_op (pend' := []) rfl (by simp (disch := (apply Apart.mk; decide)) only [go_sem, Nat.reduceAdd, Nat.reduceLT, Nat.reduceMul, Nat.reduceLeDiff, Int.reduceToNat, Int.reduceLT, Int.reduceLE, nF6, eF7, gF8]) (by simp (disch := (apply Apart.mk; decide)) only [go_sem, Nat.reduceAdd, Nat.reduceLT, Nat.reduceMul, Nat.reduceLeDiff, Int.reduceToNat, Int.reduceLT, Int.reduceLE, nF6, eF7, gF8]; rfl) (by rfl) ?_
              refine p_op (pend' := []) rfl (by simp (disch := (apply Apart.mk; decide)) only [go_sem, Nat.reduceAdd, Nat.reduceLT, Nat.reduceMul, Nat.reduceLeDiff, Int.reduceToNat, Int.reduceLT, Int.reduceLE, nF6, eF7, gF8]) (by simp (disch := (apply Apart.mk; decide)) only [go_sem, Nat.reduceAdd, Nat.reduceLT, Nat.reduceMul, Nat.reduceLeDiff, Int.reduceToNat, Int.reduceLT, Int.reduceLE, nF6, eF7, gF8]; rfl) (by rfl) ?_
              refine p_end (by simp (disch := (apply Apart.mk; decide)) only [go_sem, Nat.reduceAdd, Nat.reduceLT, Nat.reduceMul, Nat.reduceLeDiff, Int.reduceToNat, Int.reduceLT, Int.reduceLE, nF6, eF7, gF8]) ?_
              refine w_n ?_
              refine w_ret ?_
              obtain rfl := hD _ hr
              exact (w_br (w_tr (w_tr (w_br (w_tr (w_tr (w_br (w_tr (w_tr (A_endR (A_cut (os' := []) (sl := [(2, .cv (.val (.sl (List.map eToken ([] : List TToken))))), (3, .cv (.val (.int .i64 x.At))), (4, .cv (.val (.int .i64 (6 : Int))))]) hwf) ⟨rfl, on_nil hwf⟩))))))))))
            · refine w_seq ?_
              refine A_ops ?_
              refine A_upto 1 ?_
              obtain ⟨r3, eF12, hr⟩ := hr.bind
              refine A_call (out := ?o_eF12) (hp := ?p_eF12) ?c_eF12 ?d_eF12 ?_
              case c_eF12 => exact scansionref07_lower_runs x.Rune eF12
              case d_eF12 => rfl
              refine A_ops_end ?_
              refine w_n ?_
              refine A_condH hr (fun cF13 hr => ?_) (fun cF13 hr => ?_)
              · refine w_seq ?_
                refine w_K (D := (Aft W1 D)) (fun xX : Int => ⟨[(0, .cv (.val (.sl (List.map eU b)))), (5, .cv (.val (.sl (List.map eUnit r)))), (6, .cv (.row 33 (List.map eToken out1))), (9, .cv (.val (.ptr (some (h.n + 0, 0))))), (10, .cv (.val (.int .i64 xX)))], h.on [some (.cells [.val (.int .i64 (0 : Int)), .val (.int .i64 x.At), .val (.str (bs ([] : Str))), .nil])]⟩) (fun xX : Int => scansionref07_Tokens.k4 b r out1 x xX) (fun xX s' hr ht => ?_) ?_
                · obtain ⟨k1, rfl⟩ : ∃ z, z = xX := ⟨xX, rfl⟩
                  dsimp only [scansionref07_Tokens.k4] at hr ht
                  refine (w_nT ht ?_)
                  refine w_seq ?_
                  refine A_region ?_
                  refine w_n ?_
                  refine w_drawn [0, 1, 2, 3, 4, 5, 6, 7, 8, 9] (by rfl) ?_
                  refine p_run (l := [0, 1, 2, 3, 4]) (pend' := [4, 3, 2, 1, 0]) (by simp (disch := (apply Apart.mk; decide)) only [go_sem, Nat.reduceAdd, Nat.reduceLT, Nat.reduceMul, Nat.reduceLeDiff, Int.reduceToNat, Int.reduceLT, Int.reduceLE]; rfl) rfl ?_
                  obtain ⟨r4, eF14, hr⟩ := hr.bind
                  refine p_call (out := ?o_eF14) (hp := ?p_eF14) (pend' := [2, 1, 0]) rfl (by simp (disch := (apply Apart.mk; decide)) only [go_sem, Nat.reduceAdd, Nat.reduceLT, Nat.reduceMul, Nat.reduceLeDiff, Int.reduceToNat, Int.reduceLT, Int.reduceLE, Option.getD_some]) rfl (by simp (disch := (apply Apart.mk; decide)) only [go_sem, Nat.reduceAdd, Nat.reduceLT, Nat.reduceMul, Nat.reduceLeDiff, Int.reduceToNat, Int.reduceLT, Int.reduceLE, Option.getD_some]; rfl) (by simp (disch := (apply Apart.mk; decide)) only [go_sem, Nat.reduceAdd, Nat.reduceLT, Nat.reduceMul, Nat.reduceLeDiff, Int.reduceToNat, Int.reduceLT, Int.reduceLE, Option.getD_some]; rfl) (by simp (disch := (apply Apart.mk; decide)) only [go_sem, Nat.reduceAdd, Nat.reduceLT, Nat.reduceMul, Nat.reduceLeDiff, Int.reduceToNat, Int.reduceLT, Int.reduceLE, Option.getD_some]; rfl) (by rfl) ?c_eF14 ?d_eF14 ?_
                  case c_eF14 => exact scansionref07_at_runs r k1 eF14
                  case d_eF14 => rfl
                  obtain ⟨nF15, nF16, nF17, nF18, hr⟩ := hr.cut
                  refine p_run (l := [6, 7, 8]) (pend' := [8, 7, 6, 2, 1, 0]) (by simp (disch := (apply Apart.mk; decide)) only [go_sem, Nat.reduceAdd, Nat.reduceLT, Nat.reduceMul, Nat.reduceLeDiff, Int.reduceToNat, Int.reduceLT, Int.reduceLE, nF15, nF16, nF17, nF18]; rfl) rfl ?_
                  refine p_op (pend' := []) rfl (by simp (disch := (apply Apart.mk; decide)) only [go_sem, Nat.reduceAdd, Nat.reduceLT, Nat.reduceMul, Nat.reduceLeDiff, Int.reduceToNat, Int.reduceLT, Int.reduceLE, nF15, nF16, nF17, nF18]) (by simp (disch := (apply Apart.mk; decide)) only [go_sem, Nat.reduceAdd, Nat.reduceLT, Nat.reduceMul, Nat.reduceLeDiff, Int.reduceToNat, Int.reduceLT, Int.reduceLE, nF15, nF16, nF17, nF18]; rfl) (by rfl) ?_
                  refine p_end (by simp (disch := (apply Apart.mk; decide)) only [go_sem, Nat.reduceAdd, Nat.reduceLT, Nat.reduceMul, Nat.reduceLeDiff, Int.reduceToNat, Int.reduceLT, Int.reduceLE, nF15, nF16, nF17, nF18]) ?_
                  exact (w_bn (w_k ⟨(k1, (1 : Int), (List.drop (Int.toNat x.At) (List.take (Int.toNat r4) b)), []), hr, (A_cut hwf)⟩))
                · refine w_block ?_
                  refine w_Loop (fun xX : Int => ⟨[(0, .cv (.val (.sl (List.map eU b)))), (5, .cv (.val (.sl (List.map eUnit r)))), (6, .cv (.row 33 (List.map eToken out1))), (9, .cv (.val (.ptr (some (h.n + 0, 0))))), (10, .cv (.val (.int .i64 xX)))], h.on [some (.cells [.val (.int .i64 (0 : Int)), .val (.int .i64 x.At), .val (.str (bs ([] : Str))), .nil])]⟩) hr (A_cut hwf) (fun W2 xX hr => ?_)
                  obtain ⟨k2, rfl⟩ : ∃ z, z = xX := ⟨xX, rfl⟩
                  dsimp only [scansionref07_Tokens.b2] at hr
                  refine w_seq ?_
                  obtain ⟨v, vF24, hr⟩ := hr.bind
                  refine w_joinR (sj := ⟨[(0, .cv (.val (.sl (List.map eU b)))), (5, .cv (.val (.sl (List.map eUnit r)))), (6, .cv (.row 33 (List.map eToken out1))), (9, .cv (.val (.ptr (some (h.n + 0, 0))))), (10, .cv (.val (.int .i64 k2))), (68, .cv (.val (.bool v)))], h.on [some (.cells [.val (.int .i64 (0 : Int)), .val (.int .i64 x.At), .val (.str (bs ([] : Str))), .nil])]⟩) (A_ops ?_) ?_
                  · have hr := Holds.intro (D := fun z => z = v) vF24 rfl
                    refine A_upto 5 ?_
                    rcases hr.ite with ⟨cF19, hr⟩ | ⟨cF19, hr⟩
                    · obtain ⟨x1, nF20, eF21, gF22, hr⟩ := hr.idx
                      refine A_upto 5 ?_
                      obtain ⟨r5, eF23, hr⟩ := hr.bind
                      refine w_call' (out := ?o_eF23) (hp := ?p_eF23) (by simp (disch := (apply Apart.mk; decide)) only [go_sem, Nat.reduceAdd, Nat.reduceLT, Nat.reduceMul, Nat.reduceLeDiff, Int.reduceToNat, Int.reduceLT, Int.reduceLE, Option.getD_some, cF19, nF20, eF21, gF22]) (by simp (disch := (apply Apart.mk; decide)) only [go_sem, Nat.reduceAdd, Nat.reduceLT, Nat.reduceMul, Nat.reduceLeDiff, Int.reduceToNat, Int.reduceLT, Int.reduceLE, Option.getD_some, cF19, nF20, eF21, gF22]; rfl) (by simp (disch := (apply Apart.mk; decide)) only [go_sem, Nat.reduceAdd, Nat.reduceLT, Nat.reduceMul, Nat.reduceLeDiff, Int.reduceToNat, Int.reduceLT, Int.reduceLE, Option.getD_some, cF19, nF20, eF21, gF22]; rfl) (by simp (disch := (apply Apart.mk; decide)) only [go_sem, Nat.reduceAdd, Nat.reduceLT, Nat.reduceMul, Nat.reduceLeDiff, Int.reduceToNat, Int.reduceLT, Int.reduceLE, Option.getD_some, cF19, nF20, eF21, gF22]; rfl) ?c_eF23 ?d_eF23 ?_
                      case c_eF23 => exact scansionref07_goes_runs x1.Rune eF23
                      case d_eF23 => rfl
                      refine A_ops_end ?_
                      obtain rfl : _ = v := hr
                      exact w_k (A_cut hwf)
                    · refine A_upto 5 ?_
                      refine A_off ?_
                      refine A_ops_end ?_
                      obtain rfl : _ = v := hr
                      exact w_k (A_cut hwf)
                  refine A_condH hr (fun cF25 hr => ?_) (fun cF25 hr => ?_)
                  · refine w_skip ?_
                    refine w_n ?_
                    refine w_block ?_
                    refine A_region ?_
                    exact (w_bn (w_k ⟨(IntKind.i64.wrap (k2 + (1 : Int))), hr, (A_cut hwf)⟩))
                  · refine w_exit ?_
                    exact (w_te (w_te (w_bx (w_k ⟨k2, (hr).map, (A_cut hwf)⟩))))
              · refine w_seq ?_
                refine A_region ?_
                refine w_n ?_
                refine A_condH hr (fun cF26 hr => ?_) (fun cF26 hr => ?_)
                · refine w_seq ?_
                  refine A_ops ?_
                  refine A_upto 2 ?_
                  obtain ⟨r6, eF27, hr⟩ := hr.bind
                  refine A_call (out := ?o_eF27) (hp := ?p_eF27) ?c_eF27 ?d_eF27 ?_
                  case c_eF27 => exact scansionref07_set_runs r (IntKind.i64.wrap (i + (1 : Int))) eF27
                  case d_eF27 => rfl
                  refine A_ops_end ?_
                  refine w_n ?_
                  refine w_seq ?_
                  refine w_seq ?_
                  refine A_region ?_
                  refine w_n ?_
                  refine A_condH hr (fun cF28 hr => ?_) (fun cF28 hr => ?_)
                  · refine w_seq ?_
                    refine A_ops ?_
                    refine A_upto 2 ?_
                    obtain ⟨r7, eF29, hr⟩ := hr.bind
                    refine A_call (out := ?o_eF29) (hp := ?p_eF29) ?c_eF29 ?d_eF29 ?_
                    case c_eF29 => exact scansionref07_at_runs r r6.2.1 eF29
                    case d_eF29 => rfl
                    refine A_ops_end ?_
                    refine w_n ?_
                    refine w_ret ?_
                    obtain rfl := hD _ hr
                    exact (w_tr (w_br (w_tr (w_tr (w_br (w_tr (w_tr (w_br (w_tr (w_tr (A_endR (A_cut (os' := []) (sl := [(2, .cv (.val (.sl (List.map eToken ([] : List TToken))))), (3, .cv (.val (.int .i64 r7))), (4, .cv (.val (.int .i64 r6.2.2)))]) hwf) ⟨rfl, on_nil hwf⟩)))))))))))
                  · refine w_skip ?_
                    refine w_n ?_
                    refine w_seq ?_
                    refine A_region ?_
                    refine w_n ?_
                    refine w_seq ?_
                    refine A_region ?_
                    refine w_n ?_
                    refine A_region ?_
                    exact (w_bn (w_k ⟨(r6.2.1, (3 : Int), ([] : Str), r6.1), hr, (A_cut hwf)⟩))
                · refine w_seq ?_
                  refine A_ops ?_
                  refine A_upto 1 ?_
                  obtain ⟨r8, eF30, hr⟩ := hr.bind
                  refine A_call (out := ?o_eF30) (hp := ?p_eF30) ?c_eF30 ?d_eF30 ?_
                  case c_eF30 => exact scansionref07_sign_runs x.Rune eF30
                  case d_eF30 => rfl
                  refine A_ops_end ?_
                  refine w_n ?_
                  refine A_condH hr (fun cF31 hr => ?_) (fun cF31 hr => ?_)
                  · refine w_seq ?_
                    refine A_region ?_
                    refine w_n ?_
                    refine A_region ?_
                    exact (w_bn (w_k ⟨((IntKind.i64.wrap (i + (1 : Int))), (2 : Int), [(u8 (IntKind.u8.wrap x.Rune))], []), hr, (A_cut hwf)⟩))
                  · refine w_seq ?_
                    refine w_drawn [0, 1, 2, 3, 4, 5, 6, 7] (by rfl) ?_
                    refine p_run (l := [0, 1, 2, 3, 4]) (pend' := [4, 3, 2, 1, 0]) (by simp (disch := (apply Apart.mk; decide)) only [go_sem, Nat.reduceAdd, Nat.reduceLT, Nat.reduceMul, Nat.reduceLeDiff, Int.reduceToNat, Int.reduceLT, Int.reduceLE, nF6, eF7, gF8]; rfl) rfl ?_
                    refine p_op (pend' := [4, 3, 2, 1, 0]) rfl (by simp (disch := (apply Apart.mk; decide)) only [go_sem, Nat.reduceAdd, Nat.reduceLT, Nat.reduceMul, Nat.reduceLeDiff, Int.reduceToNat, Int.reduceLT, Int.reduceLE, nF6, eF7, gF8]) (by simp (disch := (apply Apart.mk; decide)) only [go_sem, Nat.reduceAdd, Nat.reduceLT, Nat.reduceMul, Nat.reduceLeDiff, Int.reduceToNat, Int.reduceLT, Int.reduceLE, nF6, eF7, gF8]; rfl) (by rfl) ?_
                    refine p_op (pend' := []) rfl (by simp (disch := (apply Apart.mk; decide)) only [go_sem, Nat.reduceAdd, Nat.reduceLT, Nat.reduceMul, Nat.reduceLeDiff, Int.reduceToNat, Int.reduceLT, Int.reduceLE, nF6, eF7, gF8]) (by simp (disch := (apply Apart.mk; decide)) only [go_sem, Nat.reduceAdd, Nat.reduceLT, Nat.reduceMul, Nat.reduceLeDiff, Int.reduceToNat, Int.reduceLT, Int.reduceLE, nF6, eF7, gF8]; rfl) (by rfl) ?_
                    refine p_op (pend' := []) rfl (by simp (disch := (apply Apart.mk; decide)) only [go_sem, Nat.reduceAdd, Nat.reduceLT, Nat.reduceMul, Nat.reduceLeDiff, Int.reduceToNat, Int.reduceLT, Int.reduceLE, nF6, eF7, gF8]) (by simp (disch := (apply Apart.mk; decide)) only [go_sem, Nat.reduceAdd, Nat.reduceLT, Nat.reduceMul, Nat.reduceLeDiff, Int.reduceToNat, Int.reduceLT, Int.reduceLE, nF6, eF7, gF8]; rfl) (by rfl) ?_
                    refine p_end (by simp (disch := (apply Apart.mk; decide)) only [go_sem, Nat.reduceAdd, Nat.reduceLT, Nat.reduceMul, Nat.reduceLeDiff, Int.reduceToNat, Int.reduceLT, Int.reduceLE, nF6, eF7, gF8]) ?_
                    refine w_n ?_
                    refine w_ret ?_
                    obtain rfl := hD _ hr
                    exact (w_br (w_tr (w_tr (w_br (w_tr (w_tr (w_br (w_tr (w_tr (A_endR (A_cut (os' := []) (sl := [(2, .cv (.val (.sl (List.map eToken ([] : List TToken))))), (3, .cv (.val (.int .i64 x.At))), (4, .cv (.val (.int .i64 (6 : Int))))]) hwf) ⟨rfl, on_nil hwf⟩))))))))))
      · refine w_exit ?_
        exact (w_te (w_te (w_bx (w_k ⟨out1, (hr).map, (A_cut hwf)⟩))))
end Go.Val

/- part IW18 -/
/- scansion/scansionref02.Same runs as it is read off. -/
namespace Go.Val
set_option linter.unusedVariables false
set_option linter.unusedSimpArgs false
set_option maxRecDepth 20000
open Go.Proofs
theorem scansionref02_Same_runs (a_ : List TRange) (b : List TRange) {h : Heap} {a : Bool} (e : scansionref02_Same a_ b = some a) :
    Runs CT 18 [.cv (.val (.sl (List.map eRange a_))), .cv (.val (.sl (List.map eRange b)))] h fun o h' => o = [.cv (.val (.bool a))] ∧ h' = h := by
  refine Runs.start Try.f18 _ Try.func18 rfl (by rw [Try.ntmps18]; simp) (by rfl) (by rfl) (fun hwf hu => ?_)
  obtain ⟨D, hD, hr⟩ : ∃ D : Bool → Prop, (∀ z, D z → z = a) ∧ Holds (scansionref02_Same a_ b) D := ⟨fun z => z = a, fun _ h => h, Holds.intro e rfl⟩
  dsimp only [scansionref02_Same] at hr
  change wpCode _ _ _ _ _ ⟨[(0, .cv (.val (.sl (List.map eRange a_)))), (1, .cv (.val (.sl (List.map eRange b))))], h.on []⟩
  refine w_seq ?_
  refine A_region ?_
  refine w_n ?_
  refine w_seq ?_
  refine w_seq ?_
  refine A_region ?_
  refine w_n ?_
  refine A_condH hr (fun cF1 hr => ?_) (fun cF1 hr => ?_)
  · refine w_seq ?_
    refine A_region ?_
    refine w_n ?_
    refine w_ret ?_
    obtain rfl := hD _ hr
    exact (w_tr (A_endR (A_cut (os' := []) (sl := [(4, .cv (.val (.bool false)))]) hwf) ⟨rfl, on_nil hwf⟩))
  · refine w_skip ?_
    refine w_n ?_
    refine w_seq ?_
    refine w_seq ?_
    refine A_region ?_
    refine w_n ?_
    refine w_K (D := D) (fun xX : Unit => ⟨[], h.on []⟩) (fun xX : Unit => scansionref02_Same.k1) (fun xX s' hr ht => ?_) ?_
    · dsimp only [scansionref02_Same.k1] at hr ht
      refine (w_nT ht ?_)
      refine w_seq ?_
      refine A_region ?_
      refine w_n ?_
      refine w_ret ?_
      obtain rfl := hD _ hr
      exact (A_endR (A_cut (os' := []) (sl := [(4, .cv (.val (.bool true)))]) hwf) ⟨rfl, on_nil hwf⟩)
    · refine w_block ?_
      refine w_Loop (fun xX : Int => ⟨[(0, .cv (.val (.sl (List.map eRange a_)))), (1, .cv (.val (.sl (List.map eRange b)))), (5, .cv (.val (.int .i64 xX)))], h.on []⟩) hr (A_cut hwf) (fun W1 xX hr => ?_)
      obtain ⟨i, rfl⟩ : ∃ z, z = xX := ⟨xX, rfl⟩
      dsimp only [scansionref02_Same.b1] at hr
      refine w_seq ?_
      refine w_seq ?_
      refine A_region ?_
      refine w_n ?_
      refine A_condH hr (fun cF2 hr => ?_) (fun cF2 hr => ?_)
      · refine w_skip ?_
        refine w_n ?_
        refine w_seq ?_
        refine w_block ?_
        refine w_seq ?_
        refine w_drawn [0, 1, 2, 3, 4, 5, 6, 7, 8] (by rfl) ?_
        obtain ⟨x, nF3, eF4, gF5, hr⟩ := hr.idx
        obtain ⟨x1, nF6, eF7, gF8, hr⟩ := hr.idx
        refine p_run (l := [0, 1, 2, 3, 4, 5, 6, 7, 8]) (pend' := [8, 7, 6, 5, 4, 3, 2, 1, 0]) (by simp (disch := (apply Apart.mk; decide)) only [go_sem, Nat.reduceAdd, Nat.reduceLT, Nat.reduceMul, Nat.reduceLeDiff, Int.reduceToNat, Int.reduceLT, Int.reduceLE, nF3, eF4, gF5, nF6, eF7, gF8]; rfl) rfl ?_
        refine p_end (by simp (disch := (apply Apart.mk; decide)) only [go_sem, Nat.reduceAdd, Nat.reduceLT, Nat.reduceMul, Nat.reduceLeDiff, Int.reduceToNat, Int.reduceLT, Int.reduceLE, nF3, eF4, gF5, nF6, eF7, gF8]) ?_
        refine w_n ?_
        refine A_condH hr (fun cF9 hr => ?_) (fun cF9 hr => ?_)
        · refine w_seq ?_
          refine A_region ?_
          refine w_n ?_
          refine w_ret ?_
          obtain rfl := hD _ hr
          exact (w_br (w_tr (w_tr (w_br (w_tr (w_tr (A_endR (A_cut (os' := []) (sl := [(4, .cv (.val (.bool false)))]) hwf) ⟨rfl, on_nil hwf⟩)))))))
        · refine w_skip ?_
          refine (w_bn (w_n ?_))
          refine A_region ?_
          exact (w_k ⟨(IntKind.i64.wrap (i + (1 : Int))), hr, (A_cut hwf)⟩)
      · refine w_exit ?_
        exact (w_te (w_te (w_bx (w_k ⟨(), (hr).map, (A_cut hwf)⟩))))
end Go.Val

/- part IW17 -/
/- scansion/scansionref07.Same runs as it is read off. -/
namespace Go.Val
set_option linter.unusedVariables false
set_option linter.unusedSimpArgs false
set_option maxRecDepth 20000
open Go.Proofs
theorem scansionref07_Same_runs (a_ : List TToken) (b : List TToken) {h : Heap} {a : Bool} (e : scansionref07_Same a_ b = some a) :
    Runs CT 17 [.cv (.val (.sl (List.map eToken a_))), .cv (.val (.sl (List.map eToken b)))] h fun o h' => o = [.cv (.val (.bool a))] ∧ h' = h := by
  refine Runs.start Try.f17 _ Try.func17 rfl (by rw [Try.ntmps17]; simp) (by rfl) (by rfl) (fun hwf hu => ?_)
  obtain ⟨D, hD, hr⟩ : ∃ D : Bool → Prop, (∀ z, D z → z = a) ∧ Holds (scansionref07_Same a_ b) D := ⟨fun z => z = a, fun _ h => h, Holds.intro e rfl⟩
  dsimp only [scansionref07_Same] at hr
  change wpCode _ _ _ _ _ ⟨[(0, .cv (.val (.sl (List.map eToken a_)))), (1, .cv (.val (.sl (List.map eToken b))))], h.on []⟩
  refine w_seq ?_
  refine A_region ?_
  refine w_n ?_
  refine w_seq ?_
  refine w_seq ?_
  refine A_region ?_
  refine w_n ?_
  refine A_condH hr (fun cF1 hr => ?_) (fun cF1 hr => ?_)
  · refine w_seq ?_
    refine A_region ?_
    refine w_n ?_
    refine w_ret ?_
    obtain rfl := hD _ hr
    exact (w_tr (A_endR (A_cut (os' := []) (sl := [(4, .cv (.val (.bool false)))]) hwf) ⟨rfl, on_nil hwf⟩))
  · refine w_skip ?_
    refine w_n ?_
    refine w_seq ?_
    refine w_seq ?_
    refine A_region ?_
    refine w_n ?_
    refine w_K (D := D) (fun xX : Unit => ⟨[], h.on []⟩) (fun xX : Unit => scansionref07_Same.k1) (fun xX s' hr ht => ?_) ?_
    · dsimp only [scansionref07_Same.k1] at hr ht
      refine (w_nT ht ?_)
      refine w_seq ?_
      refine A_region ?_
      refine w_n ?_
      refine w_ret ?_
      obtain rfl := hD _ hr
      exact (A_endR (A_cut (os' := []) (sl := [(4, .cv (.val (.bool true)))]) hwf) ⟨rfl, on_nil hwf⟩)
    · refine w_block ?_
      refine w_Loop (fun xX : Int => ⟨[(0, .cv (.val (.sl (List.map eToken a_)))), (1, .cv (.val (.sl (List.map eToken b)))), (5, .cv (.val (.int .i64 xX)))], h.on []⟩) hr (A_cut hwf) (fun W1 xX hr => ?_)
      obtain ⟨i, rfl⟩ : ∃ z, z = xX := ⟨xX, rfl⟩
      dsimp only [scansionref07_Same.b1] at hr
      refine w_seq ?_
      refine w_seq ?_
      refine A_region ?_
      refine w_n ?_
      refine A_condH hr (fun cF2 hr => ?_) (fun cF2 hr => ?_)
      · refine w_skip ?_
        refine w_n ?_
        refine w_seq ?_
        refine w_block ?_
        refine w_seq ?_
        refine w_drawn [0, 1, 2, 3, 4, 5, 6, 7, 8, 9, 10, 11] (by rfl) ?_
        obtain ⟨x, nF3, eF4, gF5, hr⟩ := hr.idx
        obtain ⟨x1, nF6, eF7, gF8, hr⟩ := hr.idx
        refine p_run (l := [0, 1, 2, 3, 4, 5, 6, 7, 8, 9]) (pend' := [9, 8, 7, 6, 5, 4, 3, 2, 1, 0]) (by simp (disch := (apply Apart.mk; decide)) only [go_sem, Nat.reduceAdd, Nat.reduceLT, Nat.reduceMul, Nat.reduceLeDiff, Int.reduceToNat, Int.reduceLT, Int.reduceLE, nF3, eF4, gF5, nF6, eF7, gF8]; rfl) rfl ?_
        obtain ⟨r, eF9, hr⟩ := hr.bind
        refine p_call (out := ?o_eF9) (hp := ?p_eF9) (pend' := []) rfl (by simp (disch := (apply Apart.mk; decide)) only [go_sem, Nat.reduceAdd, Nat.reduceLT, Nat.reduceMul, Nat.reduceLeDiff, Int.reduceToNat, Int.reduceLT, Int.reduceLE, Option.getD_some, nF3, eF4, gF5, nF6, eF7, gF8]) rfl (by simp (disch := (apply Apart.mk; decide)) only [go_sem, Nat.reduceAdd, Nat.reduceLT, Nat.reduceMul, Nat.reduceLeDiff, Int.reduceToNat, Int.reduceLT, Int.reduceLE, Option.getD_some, nF3, eF4, gF5, nF6, eF7, gF8]; rfl) (by simp (disch := (apply Apart.mk; decide)) only [go_sem, Nat.reduceAdd, Nat.reduceLT, Nat.reduceMul, Nat.reduceLeDiff, Int.reduceToNat, Int.reduceLT, Int.reduceLE, Option.getD_some, nF3, eF4, gF5, nF6, eF7, gF8]; rfl) (by simp (disch := (apply Apart.mk; decide)) only [go_sem, Nat.reduceAdd, Nat.reduceLT, Nat.reduceMul, Nat.reduceLeDiff, Int.reduceToNat, Int.reduceLT, Int.reduceLE, Option.getD_some, nF3, eF4, gF5, nF6, eF7, gF8]; rfl) (by rfl) ?c_eF9 ?d_eF9 ?_
        case c_eF9 => exact scansionref02_Same_runs x.Set x1.Set eF9
        case d_eF9 => rfl
        refine p_op (pend' := []) rfl (by simp (disch := (apply Apart.mk; decide)) only [go_sem, Nat.reduceAdd, Nat.reduceLT, Nat.reduceMul, Nat.reduceLeDiff, Int.reduceToNat, Int.reduceLT, Int.reduceLE, nF3, eF4, gF5, nF6, eF7, gF8]) (by simp (disch := (apply Apart.mk; decide)) only [go_sem, Nat.reduceAdd, Nat.reduceLT, Nat.reduceMul, Nat.reduceLeDiff, Int.reduceToNat, Int.reduceLT, Int.reduceLE, nF3, eF4, gF5, nF6, eF7, gF8]; rfl) (by rfl) ?_
        refine p_end (by simp (disch := (apply Apart.mk; decide)) only [go_sem, Nat.reduceAdd, Nat.reduceLT, Nat.reduceMul, Nat.reduceLeDiff, Int.reduceToNat, Int.reduceLT, Int.reduceLE, nF3, eF4, gF5, nF6, eF7, gF8]) ?_
        refine w_n ?_
        refine w_joinR (sj := ⟨[(0, .cv (.val (.sl (List.map eToken a_)))), (1, .cv (.val (.sl (List.map eToken b)))), (5, .cv (.val (.int .i64 i))), (69, .cv (.val (.bool ((x.Kind != x1.Kind) || ((x.At != x1.At) || ((!(x.Text == x1.Text)) || (!r)))))))], h.on []⟩) (w_drawn [0, 1, 2, 3, 4, 5, 6, 7, 8, 9, 10, 11, 12, 13, 14, 15, 16, 17, 18, 19, 20, 21, 22, 23, 24, 25, 26, 27, 28, 29, 30, 31, 32, 33, 34, 35, 36, 37, 38, 39, 40] (by rfl) ?_) ?_
        · refine p_run (l := [0, 1, 2, 3, 4, 5, 6, 7, 8, 9, 10, 11]) (pend' := [11, 10, 9, 8, 7, 6, 5, 4, 3, 2, 1, 0]) (by simp (disch := (apply Apart.mk; decide)) only [go_sem, Nat.reduceAdd, Nat.reduceLT, Nat.reduceMul, Nat.reduceLeDiff, Int.reduceToNat, Int.reduceLT, Int.reduceLE, nF3, eF4, gF5, nF6, eF7, gF8]; rfl) rfl ?_
          rcases Bool.eq_false_or_eq_true (x.Kind != x1.Kind) with cF10 | cF10
          · refine p_run (l := [12, 13, 14, 15, 16, 17, 18, 19, 20, 21, 22, 23, 24, 25, 26, 27, 28, 29, 30, 31, 32, 33, 34, 35, 36, 37, 38, 39, 40]) (pend' := [40, 39, 38, 37, 36, 35, 34, 33, 32, 31, 30, 29, 28, 27, 26, 25, 24, 23, 22, 21, 20, 19, 18, 17, 16, 15, 14, 13, 12, 11, 10, 9, 8, 7, 6, 5, 4, 3, 2, 1, 0]) (by simp (disch := (apply Apart.mk; decide)) only [go_sem, Nat.reduceAdd, Nat.reduceLT, Nat.reduceMul, Nat.reduceLeDiff, Int.reduceToNat, Int.reduceLT, Int.reduceLE, nF3, eF4, gF5, nF6, eF7, gF8, cF10]; rfl) rfl ?_
            refine p_end (by simp (disch := (apply Apart.mk; decide)) only [go_sem, Nat.reduceAdd, Nat.reduceLT, Nat.reduceMul, Nat.reduceLeDiff, Int.reduceToNat, Int.reduceLT, Int.reduceLE, nF3, eF4, gF5, nF6, eF7, gF8, cF10]) ?_
            exact w_k (A_cut hwf)
          · refine p_run (l := [12, 13, 14, 15, 16, 17, 18, 19, 20, 21, 22, 23, 24]) (pend' := [24, 23, 22, 21, 20, 19, 18, 17, 16, 15, 14, 13, 12, 11, 10, 9, 8, 7, 6, 5, 4, 3, 2, 1, 0]) (by simp (disch := (apply Apart.mk; decide)) only [go_sem, Nat.reduceAdd, Nat.reduceLT, Nat.reduceMul, Nat.reduceLeDiff, Int.reduceToNat, Int.reduceLT, Int.reduceLE, nF3, eF4, gF5, nF6, eF7, gF8, cF10]; rfl) rfl ?_
            rcases Bool.eq_false_or_eq_true (x.At != x1.At) with cF11 | cF11
            · refine p_run (l := [25, 26, 27, 28, 29, 30, 31, 32, 33, 34, 35, 36, 37, 38, 39, 40]) (pend' := [40, 39, 38, 37, 36, 35, 34, 33, 32, 31, 30, 29, 28, 27, 26, 25, 24, 23, 22, 21, 20, 19, 18, 17, 16, 15, 14, 13, 12, 11, 10, 9, 8, 7, 6, 5, 4, 3, 2, 1, 0]) (by simp (disch := (apply Apart.mk; decide)) only [go_sem, Nat.reduceAdd, Nat.reduceLT, Nat.reduceMul, Nat.reduceLeDiff, Int.reduceToNat, Int.reduceLT, Int.reduceLE, nF3, eF4, gF5, nF6, eF7, gF8, cF10, cF11]; rfl) rfl ?_
              refine p_end (by simp (disch := (apply Apart.mk; decide)) only [go_sem, Nat.reduceAdd, Nat.reduceLT, Nat.reduceMul, Nat.reduceLeDiff, Int.reduceToNat, Int.reduceLT, Int.reduceLE, nF3, eF4, gF5, nF6, eF7, gF8, cF10, nF3, eF4, gF5, nF6, eF7, gF8, cF11]) ?_
              exact w_k (A_cut hwf)
            · refine p_run (l := [25, 26, 27, 28, 29, 30, 31, 32, 33, 34, 35, 36, 37]) (pend' := [37, 36, 35, 34, 33, 32, 31, 30, 29, 28, 27, 26, 25, 24, 23, 22, 21, 20, 19, 18, 17, 16, 15, 14, 13, 12, 11, 10, 9, 8, 7, 6, 5, 4, 3, 2, 1, 0]) (by simp (disch := (apply Apart.mk; decide)) only [go_sem, Nat.reduceAdd, Nat.reduceLT, Nat.reduceMul, Nat.reduceLeDiff, Int.reduceToNat, Int.reduceLT, Int.reduceLE, nF3, eF4, gF5, nF6, eF7, gF8, cF10, cF11]; rfl) rfl ?_
              rcases Bool.eq_false_or_eq_true (!(x.Text == x1.Text)) with cF12 | cF12
              · refine p_run (l := [38, 39, 40]) (pend' := [40, 39, 38, 37, 36, 35, 34, 33, 32, 31, 30, 29, 28, 27, 26, 25, 24, 23, 22, 21, 20, 19, 18, 17, 16, 15, 14, 13, 12, 11, 10, 9, 8, 7, 6, 5, 4, 3, 2, 1, 0]) (by simp (disch := (apply Apart.mk; decide)) only [go_sem, Nat.reduceAdd, Nat.reduceLT, Nat.reduceMul, Nat.reduceLeDiff, Int.reduceToNat, Int.reduceLT, Int.reduceLE, nF3, eF4, gF5, nF6, eF7, gF8, cF10, cF11, cF12]; rfl) rfl ?_
                refine p_end (by simp (disch := (apply Apart.mk; decide)) only [go_sem, Nat.reduceAdd, Nat.reduceLT, Nat.reduceMul, Nat.reduceLeDiff, Int.reduceToNat, Int.reduceLT, Int.reduceLE, nF3, eF4, gF5, nF6, eF7, gF8, cF10, nF3, eF4, gF5, nF6, eF7, gF8, cF11, nF3, eF4, gF5, nF6, eF7, gF8, cF12]) ?_
                exact w_k (A_cut hwf)
              · refine p_run (l := [38, 39, 40]) (pend' := [40, 39, 38, 37, 36, 35, 34, 33, 32, 31, 30, 29, 28, 27, 26, 25, 24, 23, 22, 21, 20, 19, 18, 17, 16, 15, 14, 13, 12, 11, 10, 9, 8, 7, 6, 5, 4, 3, 2, 1, 0]) (by simp (disch := (apply Apart.mk; decide)) only [go_sem, Nat.reduceAdd, Nat.reduceLT, Nat.reduceMul, Nat.reduceLeDiff, Int.reduceToNat, Int.reduceLT, Int.reduceLE, nF3, eF4, gF5, nF6, eF7, gF8, cF10, cF11, cF12]; rfl) rfl ?_
                refine p_end (by simp (disch := (apply Apart.mk; decide)) only [go_sem, Nat.reduceAdd, Nat.reduceLT, Nat.reduceMul, Nat.reduceLeDiff, Int.reduceToNat, Int.reduceLT, Int.reduceLE, nF3, eF4, gF5, nF6, eF7, gF8, cF10, nF3, eF4, gF5, nF6, eF7, gF8, cF11, nF3, eF4, gF5, nF6, eF7, gF8, cF12]) ?_
                exact w_k (A_cut hwf)
        refine A_condH hr (fun cF13 hr => ?_) (fun cF13 hr => ?_)
        · refine w_seq ?_
          refine A_region ?_
          refine w_n ?_
          refine w_ret ?_
          obtain rfl := hD _ hr
          exact (w_br (w_tr (w_tr (w_br (w_tr (w_tr (A_endR (A_cut (os' := []) (sl := [(4, .cv (.val (.bool false)))]) hwf) ⟨rfl, on_nil hwf⟩)))))))
        · refine w_skip ?_
          refine (w_bn (w_n ?_))
          refine A_region ?_
          exact (w_k ⟨(IntKind.i64.wrap (i + (1 : Int))), hr, (A_cut hwf)⟩)
      · refine w_exit ?_
        exact (w_te (w_te (w_bx (w_k ⟨(), (hr).map, (A_cut hwf)⟩))))
end Go.Val

/- part IW3 -/
/- scansion/scansionlaw07.LexTokens runs as it is read off. -/
namespace Go.Val
set_option linter.unusedVariables false
set_option linter.unusedSimpArgs false
set_option maxRecDepth 20000
open Go.Proofs
theorem scansionlaw07_LexTokens_runs (b : List UInt8) {h : Heap} {a : Bool} (e : scansionlaw07_LexTokens b = some a) :
    Runs CT 3 [.cv (.val (.sl (List.map eU b)))] h fun o h' => o = [.cv (.val (.bool a))] ∧ h' = h := by
  refine Runs.start Try.f3 _ Try.func3 rfl (by rw [Try.ntmps3]; simp) (by rfl) (by rfl) (fun hwf hu => ?_)
  obtain ⟨D, hD, hr⟩ : ∃ D : Bool → Prop, (∀ z, D z → z = a) ∧ Holds (scansionlaw07_LexTokens b) D := ⟨fun z => z = a, fun _ h => h, Holds.intro e rfl⟩
  dsimp only [scansionlaw07_LexTokens] at hr
  change wpCode _ _ _ _ _ ⟨[(0, .cv (.val (.sl (List.map eU b))))], h.on []⟩
  refine w_seq ?_
  refine A_region ?_
  refine w_n ?_
  refine w_seq ?_
  refine A_ops ?_
  obtain ⟨r, eF1, hr⟩ := hr.bind
  refine A_call (out := ?o_eF1) (hp := ?p_eF1) ?c_eF1 ?d_eF1 ?_
  case c_eF1 => exact scansionlaw07_awake_runs  eF1
  case d_eF1 => rfl
  refine A_ops_end ?_
  refine w_n ?_
  refine w_seq ?_
  refine w_joinR (sj := ⟨[(0, .cv (.val (.sl (List.map eU b)))), (3, .cv (.val (.bool r))), (23, .cv (.val (.bool ((!r) || ((decide ((b.length : Int) > (2000 : Int))) && (decide ((b.length : Int) ≤ (65536 : Int))))))))], h.on []⟩) (A_ops ?_) ?_
  · refine A_upto 3 ?_
    rcases Bool.eq_false_or_eq_true (!r) with cF2 | cF2
    · refine A_ops_end ?_
      exact w_k (A_cut hwf)
    · refine A_upto 4 ?_
      rcases Bool.eq_false_or_eq_true (decide ((b.length : Int) > (2000 : Int))) with cF3 | cF3
      · refine A_ops_end ?_
        exact w_k (A_cut hwf)
      · refine A_ops_end ?_
        exact w_k (A_cut hwf)
  refine A_condH hr (fun cF4 hr => ?_) (fun cF4 hr => ?_)
  · refine w_seq ?_
    refine A_region ?_
    refine w_n ?_
    refine w_ret ?_
    obtain rfl := hD _ hr
    exact (w_tr (A_endR (A_cut (os' := []) (sl := [(2, .cv (.val (.bool r)))]) hwf) ⟨rfl, on_nil hwf⟩))
  · refine w_skip ?_
    refine w_n ?_
    refine w_seq ?_
    refine A_ops ?_
    refine A_upto 1 ?_
    obtain ⟨r1, eF5, hr⟩ := hr.bind
    refine A_call (out := ?o_eF5) (hp := ?p_eF5) ?c_eF5 ?d_eF5 ?_
    case c_eF5 => exact lex_Tokens_runs b eF5
    case d_eF5 => rfl
    refine A_ops_end ?_
    refine w_n ?_
    refine w_seq ?_
    refine A_ops ?_
    refine A_upto 1 ?_
    obtain ⟨r2, eF6, hr⟩ := hr.bind
    refine A_call (out := ?o_eF6) (hp := ?p_eF6) ?c_eF6 ?d_eF6 ?_
    case c_eF6 => exact scansionref07_Tokens_runs b eF6
    case d_eF6 => rfl
    refine A_ops_end ?_
    refine w_n ?_
    refine w_seq ?_
    refine A_ops ?_
    refine A_upto 2 ?_
    obtain ⟨r3, eF7, hr⟩ := hr.bind
    refine A_call (out := ?o_eF7) (hp := ?p_eF7) ?c_eF7 ?d_eF7 ?_
    case c_eF7 => exact scansionref07_Same_runs r1.1 r2.1 eF7
    case d_eF7 => rfl
    refine A_ops_end ?_
    refine w_n ?_
    refine w_joinR (sj := ⟨[(2, .cv (.val (.bool (r3 && ((r1.2.1 == r2.2.1) && (r1.2.2 == r2.2.2))))))], h.on []⟩) (A_ops ?_) ?_
    · refine A_upto 2 ?_
      rcases Bool.eq_false_or_eq_true r3 with cF8 | cF8
      · refine A_upto 5 ?_
        rcases Bool.eq_false_or_eq_true (r1.2.1 == r2.2.1) with cF9 | cF9
        · refine A_ops_end ?_
          exact w_k (A_cut hwf)
        · refine A_ops_end ?_
          exact w_k (A_cut hwf)
      · refine A_ops_end ?_
        exact w_k (A_cut hwf)
    refine w_ret ?_
    obtain rfl := hD _ hr
    exact (A_endR (A_cut (os' := []) (sl := [(2, .cv (.val (.bool (r3 && ((r1.2.1 == r2.2.1) && (r1.2.2 == r2.2.2))))))]) hwf) ⟨rfl, on_nil hwf⟩)
end Go.Val

/- part P1 -/
/- Plain lemmas: loops that are read off. -/
namespace Go.Val
set_option linter.unusedVariables false

theorem w64 {n : Int} (h1 : -9223372036854775808 ≤ n) (h2 : n ≤ 9223372036854775807) : IntKind.i64.wrap n = n := by rw [IntKind.wrap_i64]; omega
theorem w64s {i : Nat} (h : i < 9223372036854775807) : IntKind.i64.wrap ((i : Int) + 1) = ((i + 1 : Nat) : Int) := by rw [w64 (by omega) (by omega)]; omega
theorem idx_nat {α : Type} {xs : List α} {i : Nat} : idx xs (i : Int) = xs[i]? := by
  unfold idx; rw [if_neg (by omega)]; simp
theorem room_ok {sz n : Nat} (h : n * sz ≤ 140737488355328) : room sz n = some () := by
  unfold room roomOf; rw [if_pos h]
/-- Rounds that go on, one by one. -/
theorem Loop_run {σ ρ : Type} {b : σ → Option (Step σ ρ)} (st : Nat → σ) {i n : Nat} (hin : i ≤ n) (h : ∀ j, i ≤ j → j < n → b (st j) = some (.next (st (j + 1)))) : Loop b (st i) = Loop b (st n) := by
  induction n with
  | zero => obtain rfl : i = 0 := by omega
            rfl
  | succ n ih =>
    by_cases e : i = n + 1
    · rw [e]
    · rw [ih (by omega) fun j h1 h2 => h j h1 (by omega)]
      exact Loop_next (h n (by omega) (by omega))
theorem Loop_int {ρ : Type} {b : Int → Option (Step Int ρ)} {i n : Nat} (hin : i ≤ n) (h : ∀ j : Nat, i ≤ j → j < n → b j = some (.next ((j + 1 : Nat) : Int))) : Loop b (i : Int) = Loop b (n : Int) := Loop_run (fun j : Nat => (j : Int)) hin h
/-- A loop's end. -/
theorem Loop_end {σ ρ : Type} {b : σ → Option (Step σ ρ)} {s : σ} {R : Option ρ} (h : b s = R.map Step.done) : Loop b s = R := by
  cases R with
  | some r => exact Loop_done h
  | none =>
    apply Option.ext_some
    · intro r hr
      obtain ⟨n, hn⟩ := Loop_get hr
      cases n with
      | zero => simp [rounds] at hn
      | succ n => simp [rounds, h] at hn
    · intro r hr; cases hr
open Classical in
/-- A loop that looks for what is bad. -/
theorem Loop_all {ρ : Type} {b : Int → Option (Step Int ρ)} (P : Nat → Prop) {n : Nat} {r R : ρ} (hg : ∀ j, j < n → P j → b (j : Int) = some (.next ((j + 1 : Nat) : Int))) (hb : ∀ j, j < n → ¬ P j → b (j : Int) = some (.done r)) (he : b (n : Int) = some (.done R)) :
    ∀ (d i : Nat), i + d = n → Loop b (i : Int) = if ∀ j, i ≤ j → j < n → P j then some R else some r := by
  intro d
  induction d with
  | zero =>
    intro i hi
    obtain rfl : i = n := by omega
    rw [if_pos (fun j h1 h2 => by omega)]
    exact Loop_done he
  | succ d ih =>
    intro i hi
    by_cases hp : P i
    · rw [Loop_next (hg i (by omega) hp), ih (i + 1) (by omega)]
      have : (∀ j, i + 1 ≤ j → j < n → P j) ↔ ∀ j, i ≤ j → j < n → P j := by
        constructor
        · intro h j h1 h2
          by_cases e : j = i
          · rw [e]; exact hp
          · exact h j (by omega) h2
        · intro h j h1 h2; exact h j (by omega) h2
      simp only [this]
    · rw [Loop_done (hb i (by omega) hp), if_neg (fun h => hp (h i (Nat.le_refl _) (by omega)))]
theorem Loop_all0 {ρ : Type} {b : Int → Option (Step Int ρ)} (P : Nat → Prop) (n : Nat) {r R : ρ} (hg : ∀ j, j < n → P j → b (j : Int) = some (.next ((j + 1 : Nat) : Int))) (hb : ∀ j, j < n → ¬ P j → b (j : Int) = some (.done r)) (he : b (n : Int) = some (.done R)) :
    ((∀ j, j < n → P j) → Loop b 0 = some R) ∧ ((¬ ∀ j, j < n → P j) → Loop b 0 = some r) := by
  have := Loop_all P hg hb he n 0 (by omega)
  exact ⟨fun h => by rw [if_pos (fun j _ hj => h j hj)] at this; exact this, fun h => by rw [if_neg (fun h' => h fun j hj => h' j (Nat.zero_le _) hj)] at this; exact this⟩
end Go.Val

/- part Q1i -/
/- Plain lemmas: ranges, and the one list of ranges that a set has. -/
namespace Go.Val
set_option linter.unusedVariables false
/-- A loop with an end: what is known at its head, what grows less, what is known of its end. -/
theorem Loop_spec {σ ρ : Type} {body : σ → Option (Step σ ρ)} {Q : ρ → Prop} (I : σ → Prop) (μ : σ → Nat)
    (h : ∀ s, I s → (∃ s', body s = some (.next s') ∧ I s' ∧ μ s' < μ s) ∨ (∃ r, body s = some (.done r) ∧ Q r)) : ∀ s, I s → ∃ r, Loop body s = some r ∧ Q r := by
  have key : ∀ (n : Nat) (s : σ), μ s = n → I s → ∃ r, Loop body s = some r ∧ Q r := by
    intro n
    induction n using Nat.strongRecOn with
    | _ n ih =>
      intro s hn hs
      rcases h s hs with ⟨s', h1, h2, h3⟩ | ⟨r, h1, h2⟩
      · rw [Loop_next h1]
        exact ih _ (by omega) s' rfl h2
      · exact ⟨r, Loop_done h1, h2⟩
  intro s hs
  exact key _ s rfl hs

/-- A number is in one of the ranges. -/
def In (a : List TRange) (r : Int) : Prop := ∃ x ∈ a, x.Low ≤ r ∧ r ≤ x.High
def Ok (x : TRange) : Prop := 0 ≤ x.Low ∧ x.Low ≤ x.High ∧ x.High ≤ 1114111
/-- Ranges that rise and don't touch. -/
def Norm (a : List TRange) : Prop := (∀ x ∈ a, Ok x) ∧ a.Pairwise (fun x y => x.High + 1 < y.Low)
theorem In_nil {r : Int} : ¬ In [] r := by rintro ⟨x, h, _⟩; cases h
theorem In_cons {x : TRange} {l : List TRange} {r : Int} : In (x :: l) r ↔ (x.Low ≤ r ∧ r ≤ x.High) ∨ In l r := by
  simp only [In, List.mem_cons]
  constructor
  · rintro ⟨y, rfl | h, hy⟩
    · exact .inl hy
    · exact .inr ⟨y, h, hy⟩
  · rintro (h | ⟨y, h, hy⟩)
    · exact ⟨x, .inl rfl, h⟩
    · exact ⟨y, .inr h, hy⟩
theorem In_append {l m : List TRange} {r : Int} : In (l ++ m) r ↔ In l r ∨ In m r := by
  simp only [In, List.mem_append]
  constructor
  · rintro ⟨y, h | h, hy⟩
    · exact .inl ⟨y, h, hy⟩
    · exact .inr ⟨y, h, hy⟩
  · rintro (⟨y, h, hy⟩ | ⟨y, h, hy⟩)
    · exact ⟨y, .inl h, hy⟩
    · exact ⟨y, .inr h, hy⟩
theorem In_one {x : TRange} {r : Int} : In [x] r ↔ x.Low ≤ r ∧ r ≤ x.High := by
  rw [In_cons]
  exact ⟨fun h => h.elim id fun h => absurd h In_nil, .inl⟩
theorem In_perm {l m : List TRange} (h : l.Perm m) {r : Int} : In l r ↔ In m r := by
  simp only [In, h.mem_iff]
theorem Norm_nil : Norm [] := ⟨fun x h => (by cases h), .nil⟩
theorem Norm_cons {x : TRange} {l : List TRange} : Norm (x :: l) ↔ Ok x ∧ (∀ y ∈ l, x.High + 1 < y.Low) ∧ Norm l := by
  simp only [Norm, List.mem_cons, forall_eq_or_imp, List.pairwise_cons]
  constructor
  · rintro ⟨⟨h1, h2⟩, h3, h4⟩; exact ⟨h1, h3, h2, h4⟩
  · rintro ⟨h1, h3, h2, h4⟩; exact ⟨⟨h1, h2⟩, h3, h4⟩
theorem Norm_snoc {x : TRange} {l : List TRange} : Norm (l ++ [x]) ↔ Norm l ∧ Ok x ∧ ∀ y ∈ l, y.High + 1 < x.Low := by
  simp only [Norm, List.mem_append, List.mem_singleton, List.pairwise_append]
  constructor
  · rintro ⟨h1, h2, h3, h4⟩
    exact ⟨⟨fun y hy => h1 y (.inl hy), h2⟩, h1 x (.inr rfl), fun y hy => h4 y hy x rfl⟩
  · rintro ⟨⟨h1, h2⟩, h3, h4⟩
    refine ⟨fun y hy => ?_, h2, List.pairwise_singleton _ _, fun y hy z hz => ?_⟩
    · rcases hy with hy | rfl
      · exact h1 y hy
      · exact h3
    · subst hz; exact h4 y hy
theorem Norm.bound {a : List TRange} (h : Norm a) {r : Int} (hr : In a r) : 0 ≤ r ∧ r ≤ 1114111 := by
  obtain ⟨x, hx, h1, h2⟩ := hr
  have := h.1 x hx
  unfold Ok at this
  omega
theorem In_low {a : List TRange} (h : Norm a) {x : TRange} (hx : x ∈ a) : In a x.Low := ⟨x, hx, Int.le_refl _, (h.1 x hx).2.1⟩
theorem In_high {a : List TRange} (h : Norm a) {x : TRange} (hx : x ∈ a) : In a x.High := ⟨x, hx, (h.1 x hx).2.1, Int.le_refl _⟩
/-- A set has one list of ranges. -/
theorem Norm.unique : ∀ {a b : List TRange}, Norm a → Norm b → (∀ r, In a r ↔ In b r) → a = b
  | [], [], _, _, _ => rfl
  | [], y :: m, _, hb, h => absurd ((h y.Low).2 (In_low hb (by simp))) In_nil
  | x :: l, [], ha, _, h => absurd ((h x.Low).1 (In_low ha (by simp))) In_nil
  | x :: l, y :: m, ha, hb, h => by
    have ha' := Norm_cons.1 ha
    have hb' := Norm_cons.1 hb
    have hxo := ha'.1
    have hyo := hb'.1
    unfold Ok at hxo hyo
    have low : ∀ {x : TRange} {l : List TRange}, Norm (x :: l) → ∀ {r : Int}, In (x :: l) r → x.Low ≤ r := fun {x l} hn {r} hr => by
      have hn' := Norm_cons.1 hn
      have ho := hn'.1
      unfold Ok at ho
      rcases In_cons.1 hr with h | ⟨z, hz, h1, h2⟩
      · exact h.1
      · have := hn'.2.1 z hz; omega
    have next : ∀ {x : TRange} {l : List TRange}, Norm (x :: l) → ¬ In (x :: l) (x.High + 1) := fun {x l} hn hr => by
      have hn' := Norm_cons.1 hn
      rcases In_cons.1 hr with h | ⟨z, hz, h1, h2⟩
      · omega
      · have := hn'.2.1 z hz; omega
    have e1 : x.Low = y.Low := by
      have h1 := low hb ((h x.Low).1 (In_low ha (by simp)))
      have h2 := low ha ((h y.Low).2 (In_low hb (by simp)))
      omega
    have e2 : x.High = y.High := by
      have h1 : ¬ x.High < y.High := fun hlt => next ha ((h _).2 (In_cons.2 (.inl ⟨by omega, by omega⟩)))
      have h2 : ¬ y.High < x.High := fun hlt => next hb ((h _).1 (In_cons.2 (.inl ⟨by omega, by omega⟩)))
      omega
    have e : x = y := by cases x; cases y; simp_all
    subst e
    rw [Norm.unique ha'.2.2 hb'.2.2 fun r => ?_]
    constructor
    · intro hr
      rcases In_cons.1 ((h r).1 (In_cons.2 (.inr hr))) with h1 | h1
      · obtain ⟨z, hz, k1, k2⟩ := hr
        have := ha'.2.1 z hz; omega
      · exact h1
    · intro hr
      rcases In_cons.1 ((h r).2 (In_cons.2 (.inr hr))) with h1 | h1
      · obtain ⟨z, hz, k1, k2⟩ := hr
        have := hb'.2.1 z hz; omega
      · exact h1
theorem mx_ge {a b : Int} : a ≤ mx a b ∧ b ≤ mx a b := by unfold mx; split <;> omega
theorem mx_le {a b c : Int} (h1 : a ≤ c) (h2 : b ≤ c) : mx a b ≤ c := by unfold mx; split <;> omega
theorem mx_or {a b : Int} : mx a b = a ∨ mx a b = b := by unfold mx; split <;> simp
theorem len_pred {n : Nat} (h : n < 9223372036854775807) : IntKind.i64.wrap (((n + 1 : Nat) : Int) - 1) = n := by rw [w64 (by omega) (by omega)]; omega
/-- A range is put behind ranges. -/
theorem put_spec {out : List TRange} {x : TRange} (hn : Norm out) (hx : Ok x) (hl : ∀ y ∈ out, y.Low ≤ x.Low) (hlen : (out.length + 1) * 16 ≤ 140737488355328) :
    ∃ out', ranges_put out x = some out' ∧ Norm out' ∧ (∀ r, In out' r ↔ In out r ∨ (x.Low ≤ r ∧ r ≤ x.High)) ∧ out'.length ≤ out.length + 1 ∧ ∀ y ∈ out', y.Low ≤ x.Low := by
  have hxo := hx
  unfold Ok at hxo
  rcases List.eq_nil_or_concat out with rfl | ⟨init, y, rfl⟩
  · refine ⟨[x], ?_, Norm_snoc (l := []).2 ⟨Norm_nil, hx, fun y h => by cases h⟩, fun r => ?_, by simp, fun y hy => ?_⟩
    · unfold ranges_put
      rw [if_neg (by simp), Option.bind_some, if_neg (by simp), room_ok (by simp), Option.bind_some]; rfl
    · rw [In_one]; exact ⟨.inr, fun h => h.elim (fun h => absurd h In_nil) id⟩
    · simp at hy; subst hy; omega
  · rw [List.concat_eq_append] at *
    have hlen' : (init ++ [y]).length = init.length + 1 := by simp
    obtain ⟨n1, n2, n3⟩ := Norm_snoc.1 hn
    have hyo := n2
    unfold Ok at hyo
    have hyl := hl y (by simp)
    have hi : (init ++ [y])[init.length]? = some y := by simp
    have hbig : init.length < 9223372036854775807 := by rw [hlen'] at hlen; omega
    have hw : IntKind.i64.wrap (((init ++ [y]).length : Int) - 1) = (init.length : Int) := by rw [hlen']; exact len_pred hbig
    have hcond : (if (decide (((init ++ [y]).length : Int) > (0 : Int))) then
      (idx (init ++ [y]) (IntKind.i64.wrap (((init ++ [y]).length : Int) - (1 : Int)))).bind fun x1 =>
      some (decide (x.Low ≤ (IntKind.i64.wrap (x1.High + (1 : Int)))))
    else
      some false) = some (decide (x.Low ≤ y.High + 1)) := by
      rw [if_pos (by simp), hw, idx_nat, hi, Option.bind_some, w64 (by omega) (by omega)]
    by_cases hc : x.Low ≤ y.High + 1
    · refine ⟨init ++ [⟨y.Low, mx y.High x.High⟩], ?_, Norm_snoc.2 ⟨n1, ⟨(show 0 ≤ y.Low by omega), ?_, mx_le (by omega) (by omega)⟩, n3⟩, fun r => ?_, by simp, fun z hz => ?_⟩
      · unfold ranges_put
        rw [hcond, Option.bind_some, if_pos (by simpa using hc), hw, idx_nat, hi, Option.bind_some]
        try simp
      · have := (mx_ge (a := y.High) (b := x.High)).1
        show y.Low ≤ mx y.High x.High
        omega
      · rw [In_append, In_append, In_one, In_one]
        have h1 := mx_ge (a := y.High) (b := x.High)
        have h2 := mx_or (a := y.High) (b := x.High)
        show In init r ∨ (y.Low ≤ r ∧ r ≤ mx y.High x.High) ↔ (In init r ∨ (y.Low ≤ r ∧ r ≤ y.High)) ∨ (x.Low ≤ r ∧ r ≤ x.High)
        constructor
        · rintro (h | ⟨h3, h4⟩)
          · exact .inl (.inl h)
          · by_cases h5 : r ≤ y.High
            · exact .inl (.inr ⟨h3, h5⟩)
            · exact .inr ⟨by omega, by omega⟩
        · rintro ((h | ⟨h3, h4⟩) | ⟨h3, h4⟩)
          · exact .inl h
          · exact .inr ⟨h3, by omega⟩
          · exact .inr ⟨by omega, by omega⟩
      · rcases List.mem_append.1 hz with hz | hz
        · exact hl z (by simp [hz])
        · simp at hz; subst hz; exact hyl
    · refine ⟨init ++ [y] ++ [x], ?_, Norm_snoc.2 ⟨hn, hx, fun z hz => ?_⟩, fun r => ?_, by simp, fun z hz => ?_⟩
      · unfold ranges_put
        rw [hcond, Option.bind_some, if_neg (by simpa using hc), room_ok hlen, Option.bind_some]
      · rcases List.mem_append.1 hz with hz | hz
        · have := n3 z hz; omega
        · simp at hz; subst hz; omega
      · rw [In_append, In_one]
      · rcases List.mem_append.1 hz with hz | hz
        · exact hl z hz
        · simp at hz; subst hz; omega
end Go.Val

/- A value semantics of the model's programs, sound against it, and functions read off the given program with the proofs that it runs so; no condition. -/
import Derived.Test.YtobjdbpikecnnaaOwnD
import Derived.Test.YtobjdbpikecnnaaOwnC
set_option linter.all false
set_option linter.unnecessarySimpa false
set_option linter.unusedVariables false
set_option linter.unusedSimpArgs false
/- part GW7 -/
/- scansion/scansionlaw17.DawgSum runs as it is read off. -/
namespace Go.Val
set_option linter.unusedVariables false
set_option linter.unusedSimpArgs false
set_option maxRecDepth 20000
open Go.Proofs
theorem scansionlaw17_DawgSum_runs (g : TGraph) {h : Heap} {a : Bool} (e : scansionlaw17_DawgSum g = some a) :
    Runs CT 7 [.cv (.val (.agg [.sl (List.map eB g.Final), .sl (List.map (eL eEdge) g.Edges)]))] h fun o h' => o = [.cv (.val (.bool a))] ∧ h' = h := by
  refine Runs.start Try.f7 _ Try.func7 rfl (by rw [Try.ntmps7]; simp) (by rfl) (by rfl) (fun hwf hu => ?_)
  obtain ⟨D, hD, hr⟩ : ∃ D : Bool → Prop, (∀ z, D z → z = a) ∧ Holds (scansionlaw17_DawgSum g) D := ⟨fun z => z = a, fun _ h => h, Holds.intro e rfl⟩
  dsimp only [scansionlaw17_DawgSum] at hr
  change wpCode _ _ _ _ _ ⟨[(0, .cv (.val (.agg [.sl (List.map eB g.Final), .sl (List.map (eL eEdge) g.Edges)])))], h.on []⟩
  refine w_seq ?_
  refine w_region rfl (by simp (disch := (apply Apart.mk; decide)) only [go_sem, Nat.reduceAdd, Nat.reduceLT, Nat.reduceMul, Nat.reduceLeDiff, Nat.lt_irrefl, Int.reduceToNat, Int.reduceLT, Int.reduceLE]; rfl) ?_
  refine (w_n ?_)
  refine w_seq ?_
  refine w_ops rfl ?_
  obtain ⟨r, e1, hr⟩ := hr.bind
  refine w_call' (out := ?o_e1) (hp := ?p_e1) rfl (by simp (disch := (apply Apart.mk; decide)) only [go_sem, Nat.reduceAdd, Nat.reduceLT, Nat.reduceMul, Nat.reduceLeDiff, Nat.lt_irrefl, Int.reduceToNat, Int.reduceLT, Int.reduceLE, Option.getD_some]; rfl) (by simp (disch := (apply Apart.mk; decide)) only [go_sem, Nat.reduceAdd, Nat.reduceLT, Nat.reduceMul, Nat.reduceLeDiff, Nat.lt_irrefl, Int.reduceToNat, Int.reduceLT, Int.reduceLE, Option.getD_some]; rfl) (by simp (disch := (apply Apart.mk; decide)) only [go_sem, Nat.reduceAdd, Nat.reduceLT, Nat.reduceMul, Nat.reduceLeDiff, Nat.lt_irrefl, Int.reduceToNat, Int.reduceLT, Int.reduceLE, Option.getD_some]; rfl) ?c_e1 ?d_e1 ?_
  case c_e1 => exact scansionlaw17_awake_runs  e1
  case d_e1 => rfl
  refine w_ops_end (by simp (disch := (apply Apart.mk; decide)) only [go_sem, Nat.reduceAdd, Nat.reduceLT, Nat.reduceMul, Nat.reduceLeDiff, Nat.lt_irrefl, Int.reduceToNat, Int.reduceLT, Int.reduceLE]; rfl) ?_
  refine (w_n ?_)
  refine w_seq ?_
  refine w_ops rfl ?_
  refine w_upto 1 rfl (by simp (disch := (apply Apart.mk; decide)) only [go_sem, Nat.reduceAdd, Nat.reduceLT, Nat.reduceMul, Nat.reduceLeDiff, Nat.lt_irrefl, Int.reduceToNat, Int.reduceLT, Int.reduceLE]; rfl) ?_
  obtain ⟨r1, e2, hr⟩ := hr.bind
  refine w_call' (out := ?o_e2) (hp := ?p_e2) rfl (by simp (disch := (apply Apart.mk; decide)) only [go_sem, Nat.reduceAdd, Nat.reduceLT, Nat.reduceMul, Nat.reduceLeDiff, Nat.lt_irrefl, Int.reduceToNat, Int.reduceLT, Int.reduceLE, Option.getD_some]; rfl) (by simp (disch := (apply Apart.mk; decide)) only [go_sem, Nat.reduceAdd, Nat.reduceLT, Nat.reduceMul, Nat.reduceLeDiff, Nat.lt_irrefl, Int.reduceToNat, Int.reduceLT, Int.reduceLE, Option.getD_some]; rfl) (by simp (disch := (apply Apart.mk; decide)) only [go_sem, Nat.reduceAdd, Nat.reduceLT, Nat.reduceMul, Nat.reduceLeDiff, Nat.lt_irrefl, Int.reduceToNat, Int.reduceLT, Int.reduceLE, Option.getD_some]; rfl) ?c_e2 ?d_e2 ?_
  case c_e2 => exact scansionref17_Few_runs g (60 : Int) e2
  case d_e2 => rfl
  refine w_ops_end (by simp (disch := (apply Apart.mk; decide)) only [go_sem, Nat.reduceAdd, Nat.reduceLT, Nat.reduceMul, Nat.reduceLeDiff, Nat.lt_irrefl, Int.reduceToNat, Int.reduceLT, Int.reduceLE]; rfl) ?_
  refine (w_n ?_)
  refine w_seq ?_
  refine w_joinR (sj := ⟨[(1, .cv (.val (.ptr (some (h.n + 0, 0))))), (3, .cv (.val (.bool r))), (18, .cv (.val (.bool ((!r) || (!r1)))))], h.on [some (.cells [.val (.sl (List.map eB g.Final)), .val (.sl (List.map (eL eEdge) g.Edges))])]⟩) (w_ops rfl ?_) ?_
  · refine w_upto 3 rfl (by simp (disch := (apply Apart.mk; decide)) only [go_sem, Nat.reduceAdd, Nat.reduceLT, Nat.reduceMul, Nat.reduceLeDiff, Nat.lt_irrefl, Int.reduceToNat, Int.reduceLT, Int.reduceLE]; rfl) ?_
    rcases Bool.eq_false_or_eq_true (!r) with c3 | c3
    · refine w_ops_end (by simp (disch := (apply Apart.mk; decide)) only [go_sem, Nat.reduceAdd, Nat.reduceLT, Nat.reduceMul, Nat.reduceLeDiff, Nat.lt_irrefl, Int.reduceToNat, Int.reduceLT, Int.reduceLE, c3]; rfl) ?_
      exact w_k (To.cut hwf (Nat.le_refl _) rfl (by simp (disch := (apply Apart.mk; decide)) only [go_sem, Nat.reduceAdd, Nat.reduceLT, Nat.reduceMul, Nat.reduceLeDiff, Nat.lt_irrefl, Int.reduceToNat, Int.reduceLT, Int.reduceLE, c3]))
    · refine w_ops_end (by simp (disch := (apply Apart.mk; decide)) only [go_sem, Nat.reduceAdd, Nat.reduceLT, Nat.reduceMul, Nat.reduceLeDiff, Nat.lt_irrefl, Int.reduceToNat, Int.reduceLT, Int.reduceLE, c3]; rfl) ?_
      exact w_k (To.cut hwf (Nat.le_refl _) rfl (by simp (disch := (apply Apart.mk; decide)) only [go_sem, Nat.reduceAdd, Nat.reduceLT, Nat.reduceMul, Nat.reduceLeDiff, Nat.lt_irrefl, Int.reduceToNat, Int.reduceLT, Int.reduceLE, c3]))
  refine w_condH (by simp (disch := (apply Apart.mk; decide)) only [go_sem, Nat.reduceAdd, Nat.reduceLT, Nat.reduceMul, Nat.reduceLeDiff, Nat.lt_irrefl, Int.reduceToNat, Int.reduceLT, Int.reduceLE]) hr (fun c4 hr => ?_) (fun c4 hr => ?_)
  · refine w_seq ?_
    refine w_region rfl (by simp (disch := (apply Apart.mk; decide)) only [go_sem, Nat.reduceAdd, Nat.reduceLT, Nat.reduceMul, Nat.reduceLeDiff, Nat.lt_irrefl, Int.reduceToNat, Int.reduceLT, Int.reduceLE, c4]; rfl) ?_
    refine (w_n ?_)
    refine w_ret ?_
    obtain rfl := hD _ hr
    exact (w_tr (w_endR (To.cut (os' := []) (sl := [(2, .cv (.val (.bool r)))]) hwf (Nat.le_refl _) rfl (by simp (disch := (apply Apart.mk; decide)) only [go_sem, Nat.reduceAdd, Nat.reduceLT, Nat.reduceMul, Nat.reduceLeDiff, Nat.lt_irrefl, Int.reduceToNat, Int.reduceLT, Int.reduceLE, c4])) (by simp (disch := (apply Apart.mk; decide)) only [go_sem, Nat.reduceAdd, Nat.reduceLT, Nat.reduceMul, Nat.reduceLeDiff, Nat.lt_irrefl, Int.reduceToNat, Int.reduceLT, Int.reduceLE, Try.results7, results_data CT_gives7, resCell, resVal.eq_2, loadOp_sv, c4]) ⟨rfl, on_nil hwf⟩))
  · refine w_skip ?_
    refine (w_n ?_)
    refine w_seq ?_
    refine w_ops rfl ?_
    refine w_upto 1 rfl (by simp (disch := (apply Apart.mk; decide)) only [go_sem, Nat.reduceAdd, Nat.reduceLT, Nat.reduceMul, Nat.reduceLeDiff, Nat.lt_irrefl, Int.reduceToNat, Int.reduceLT, Int.reduceLE]; rfl) ?_
    obtain ⟨r2, e5, hr⟩ := hr.bind
    refine w_call' (out := ?o_e5) (hp := ?p_e5) rfl (by simp (disch := (apply Apart.mk; decide)) only [go_sem, Nat.reduceAdd, Nat.reduceLT, Nat.reduceMul, Nat.reduceLeDiff, Nat.lt_irrefl, Int.reduceToNat, Int.reduceLT, Int.reduceLE, Option.getD_some]; rfl) (by simp (disch := (apply Apart.mk; decide)) only [go_sem, Nat.reduceAdd, Nat.reduceLT, Nat.reduceMul, Nat.reduceLeDiff, Nat.lt_irrefl, Int.reduceToNat, Int.reduceLT, Int.reduceLE, Option.getD_some]; rfl) (by simp (disch := (apply Apart.mk; decide)) only [go_sem, Nat.reduceAdd, Nat.reduceLT, Nat.reduceMul, Nat.reduceLeDiff, Nat.lt_irrefl, Int.reduceToNat, Int.reduceLT, Int.reduceLE, Option.getD_some]; rfl) ?c_e5 ?d_e5 ?_
    case c_e5 => exact dawg_Count_runs g e5
    case d_e5 => rfl
    refine w_ops_end (by simp (disch := (apply Apart.mk; decide)) only [go_sem, Nat.reduceAdd, Nat.reduceLT, Nat.reduceMul, Nat.reduceLeDiff, Nat.lt_irrefl, Int.reduceToNat, Int.reduceLT, Int.reduceLE]; rfl) ?_
    refine (w_n ?_)
    refine w_seq ?_
    refine w_seq ?_
    refine w_region rfl (by simp (disch := (apply Apart.mk; decide)) only [go_sem, Nat.reduceAdd, Nat.reduceLT, Nat.reduceMul, Nat.reduceLeDiff, Nat.lt_irrefl, Int.reduceToNat, Int.reduceLT, Int.reduceLE, c4]; rfl) ?_
    refine (w_n ?_)
    refine w_condH (by simp (disch := (apply Apart.mk; decide)) only [go_sem, Nat.reduceAdd, Nat.reduceLT, Nat.reduceMul, Nat.reduceLeDiff, Nat.lt_irrefl, Int.reduceToNat, Int.reduceLT, Int.reduceLE, c4]) hr (fun c6 hr => ?_) (fun c6 hr => ?_)
    · obtain ⟨v1, v9, hr⟩ := hr.bind
      refine w_joinR (sj := ⟨[(2, .cv (.val (.bool v1)))], h.on []⟩) (w_ops rfl ?_) ?_
      · have hr := Holds.intro (D := fun z => z = v1) v9 rfl
        refine w_upto 3 rfl (by simp (disch := (apply Apart.mk; decide)) only [go_sem, Nat.reduceAdd, Nat.reduceLT, Nat.reduceMul, Nat.reduceLeDiff, Nat.lt_irrefl, Int.reduceToNat, Int.reduceLT, Int.reduceLE]; rfl) ?_
        rcases hr.ite with ⟨c7, hr⟩ | ⟨c7, hr⟩
        · refine w_upto 1 rfl (by simp (disch := (apply Apart.mk; decide)) only [go_sem, Nat.reduceAdd, Nat.reduceLT, Nat.reduceMul, Nat.reduceLeDiff, Nat.lt_irrefl, Int.reduceToNat, Int.reduceLT, Int.reduceLE, c7]; rfl) ?_
          obtain ⟨r3, e8, hr⟩ := hr.bind
          refine w_call' (out := ?o_e8) (hp := ?p_e8) (by simp (disch := (apply Apart.mk; decide)) only [go_sem, Nat.reduceAdd, Nat.reduceLT, Nat.reduceMul, Nat.reduceLeDiff, Nat.lt_irrefl, Int.reduceToNat, Int.reduceLT, Int.reduceLE, Option.getD_some, c7]) (by simp (disch := (apply Apart.mk; decide)) only [go_sem, Nat.reduceAdd, Nat.reduceLT, Nat.reduceMul, Nat.reduceLeDiff, Nat.lt_irrefl, Int.reduceToNat, Int.reduceLT, Int.reduceLE, Option.getD_some, c7]; rfl) (by simp (disch := (apply Apart.mk; decide)) only [go_sem, Nat.reduceAdd, Nat.reduceLT, Nat.reduceMul, Nat.reduceLeDiff, Nat.lt_irrefl, Int.reduceToNat, Int.reduceLT, Int.reduceLE, Option.getD_some, c7]; rfl) (by simp (disch := (apply Apart.mk; decide)) only [go_sem, Nat.reduceAdd, Nat.reduceLT, Nat.reduceMul, Nat.reduceLeDiff, Nat.lt_irrefl, Int.reduceToNat, Int.reduceLT, Int.reduceLE, Option.getD_some, c7]; rfl) ?c_e8 ?d_e8 ?_
          case c_e8 => exact dawg_Right_runs g e8
          case d_e8 => rfl
          refine w_ops_end (by simp (disch := (apply Apart.mk; decide)) only [go_sem, Nat.reduceAdd, Nat.reduceLT, Nat.reduceMul, Nat.reduceLeDiff, Nat.lt_irrefl, Int.reduceToNat, Int.reduceLT, Int.reduceLE, c7]; rfl) ?_
          obtain rfl : _ = v1 := hr
          exact w_k (To.cut hwf (Nat.le_refl _) rfl (by simp (disch := (apply Apart.mk; decide)) only [go_sem, Nat.reduceAdd, Nat.reduceLT, Nat.reduceMul, Nat.reduceLeDiff, Nat.lt_irrefl, Int.reduceToNat, Int.reduceLT, Int.reduceLE, c4, c6, c7]))
        · refine w_upto 1 rfl (by simp (disch := (apply Apart.mk; decide)) only [go_sem, Nat.reduceAdd, Nat.reduceLT, Nat.reduceMul, Nat.reduceLeDiff, Nat.lt_irrefl, Int.reduceToNat, Int.reduceLT, Int.reduceLE, c7]; rfl) ?_
          refine w_off (by simp (disch := (apply Apart.mk; decide)) only [go_sem, Nat.reduceAdd, Nat.reduceLT, Nat.reduceMul, Nat.reduceLeDiff, Nat.lt_irrefl, Int.reduceToNat, Int.reduceLT, Int.reduceLE, c7]) ?_
          refine w_ops_end (by simp (disch := (apply Apart.mk; decide)) only [go_sem, Nat.reduceAdd, Nat.reduceLT, Nat.reduceMul, Nat.reduceLeDiff, Nat.lt_irrefl, Int.reduceToNat, Int.reduceLT, Int.reduceLE, c7]; rfl) ?_
          obtain rfl : _ = v1 := hr
          exact w_k (To.cut hwf (Nat.le_refl _) rfl (by simp (disch := (apply Apart.mk; decide)) only [go_sem, Nat.reduceAdd, Nat.reduceLT, Nat.reduceMul, Nat.reduceLeDiff, Nat.lt_irrefl, Int.reduceToNat, Int.reduceLT, Int.reduceLE, c4, c6, c7]))
      refine w_ret ?_
      obtain rfl := hD _ hr
      exact (w_tr (w_endR (To.cut (os' := []) (sl := [(2, .cv (.val (.bool v1)))]) hwf (Nat.le_refl _) rfl (by simp (disch := (apply Apart.mk; decide)) only [go_sem, Nat.reduceAdd, Nat.reduceLT, Nat.reduceMul, Nat.reduceLeDiff, Nat.lt_irrefl, Int.reduceToNat, Int.reduceLT, Int.reduceLE, c4, c6])) (by simp (disch := (apply Apart.mk; decide)) only [go_sem, Nat.reduceAdd, Nat.reduceLT, Nat.reduceMul, Nat.reduceLeDiff, Nat.lt_irrefl, Int.reduceToNat, Int.reduceLT, Int.reduceLE, Try.results7, results_data CT_gives7, resCell, resVal.eq_2, loadOp_sv, c4, c6]) ⟨rfl, on_nil hwf⟩))
    · refine w_skip ?_
      refine (w_n ?_)
      refine w_seq ?_
      refine w_seq ?_
      refine w_region rfl (by simp (disch := (apply Apart.mk; decide)) only [go_sem, Nat.reduceAdd, Nat.reduceLT, Nat.reduceMul, Nat.reduceLeDiff, Nat.lt_irrefl, Int.reduceToNat, Int.reduceLT, Int.reduceLE, c4, c6]; rfl) ?_
      refine (w_n ?_)
      refine w_K (D := D) (fun x : Unit => ⟨[(1, .cv (.val (.ptr (some (h.n + 0, 0))))), (5, .cv (.val (.sl (List.map eI r2.1))))], h.on [some (.cells [.val (.sl (List.map eB g.Final)), .val (.sl (List.map (eL eEdge) g.Edges))])]⟩) (fun x : Unit => scansionlaw17_DawgSum.k1 g r2) (fun x s' hr ht => ?_) ?_
      · dsimp only [scansionlaw17_DawgSum.k1] at hr ht
        refine (w_nT ht ?_)
        refine w_seq ?_
        refine w_region rfl (by simp (disch := (apply Apart.mk; decide)) only [go_sem, Nat.reduceAdd, Nat.reduceLT, Nat.reduceMul, Nat.reduceLeDiff, Nat.lt_irrefl, Int.reduceToNat, Int.reduceLT, Int.reduceLE, c4, c6]; rfl) ?_
        refine (w_n ?_)
        refine w_ret ?_
        obtain rfl := hD _ hr
        exact (w_endR (To.cut (os' := []) (sl := [(2, .cv (.val (.bool ((r2.1.length : Int) == (g.Final.length : Int)))))]) hwf (Nat.le_refl _) rfl (by simp (disch := (apply Apart.mk; decide)) only [go_sem, Nat.reduceAdd, Nat.reduceLT, Nat.reduceMul, Nat.reduceLeDiff, Nat.lt_irrefl, Int.reduceToNat, Int.reduceLT, Int.reduceLE, c4, c6])) (by simp (disch := (apply Apart.mk; decide)) only [go_sem, Nat.reduceAdd, Nat.reduceLT, Nat.reduceMul, Nat.reduceLeDiff, Nat.lt_irrefl, Int.reduceToNat, Int.reduceLT, Int.reduceLE, Try.results7, results_data CT_gives7, resCell, resVal.eq_2, loadOp_sv, c4, c6]) ⟨rfl, on_nil hwf⟩)
      · refine w_block ?_
        refine w_Loop (fun x : Int => ⟨[(1, .cv (.val (.ptr (some (h.n + 0, 0))))), (5, .cv (.val (.sl (List.map eI r2.1)))), (7, .cv (.val (.int .i64 x)))], h.on [some (.cells [.val (.sl (List.map eB g.Final)), .val (.sl (List.map (eL eEdge) g.Edges))])]⟩) hr (To.cut hwf (Nat.le_refl _) rfl (by simp (disch := (apply Apart.mk; decide)) only [go_sem, Nat.reduceAdd, Nat.reduceLT, Nat.reduceMul, Nat.reduceLeDiff, Nat.lt_irrefl, Int.reduceToNat, Int.reduceLT, Int.reduceLE, c4, c6])) (fun W1 x hr => ?_)
        obtain ⟨s, rfl⟩ : ∃ z, z = x := ⟨x, rfl⟩
        dsimp only [scansionlaw17_DawgSum.b1] at hr
        refine w_seq ?_
        refine w_seq ?_
        refine w_region rfl (by simp (disch := (apply Apart.mk; decide)) only [go_sem, Nat.reduceAdd, Nat.reduceLT, Nat.reduceMul, Nat.reduceLeDiff, Nat.lt_irrefl, Int.reduceToNat, Int.reduceLT, Int.reduceLE, c4, c6]; rfl) ?_
        refine (w_n ?_)
        refine w_condH (by simp (disch := (apply Apart.mk; decide)) only [go_sem, Nat.reduceAdd, Nat.reduceLT, Nat.reduceMul, Nat.reduceLeDiff, Nat.lt_irrefl, Int.reduceToNat, Int.reduceLT, Int.reduceLE, c4, c6]) hr (fun c10 hr => ?_) (fun c10 hr => ?_)
        · refine w_skip ?_
          refine (w_n ?_)
          refine w_seq ?_
          refine w_K (D := (Aft W1 D)) (fun x : Unit => ⟨[(1, .cv (.val (.ptr (some (h.n + 0, 0))))), (5, .cv (.val (.sl (List.map eI r2.1)))), (7, .cv (.val (.int .i64 s)))], h.on [some (.cells [.val (.sl (List.map eB g.Final)), .val (.sl (List.map (eL eEdge) g.Edges))])]⟩) (fun x : Unit => scansionlaw17_DawgSum.k2 s) (fun x s' hr ht => ?_) ?_
          · dsimp only [scansionlaw17_DawgSum.k2] at hr ht
            refine (w_nT ht ?_)
            refine w_region rfl (by simp (disch := (apply Apart.mk; decide)) only [go_sem, Nat.reduceAdd, Nat.reduceLT, Nat.reduceMul, Nat.reduceLeDiff, Nat.lt_irrefl, Int.reduceToNat, Int.reduceLT, Int.reduceLE, c4, c6, c10]; rfl) ?_
            exact (w_k ⟨(IntKind.i64.wrap (s + (1 : Int))), hr, (To.cut hwf (Nat.le_refl _) rfl (by simp (disch := (apply Apart.mk; decide)) only [go_sem, Nat.reduceAdd, Nat.reduceLT, Nat.reduceMul, Nat.reduceLeDiff, Nat.lt_irrefl, Int.reduceToNat, Int.reduceLT, Int.reduceLE, c4, c6, c10]))⟩)
          · refine w_block ?_
            refine w_seq ?_
            refine w_region rfl (by simp (disch := (apply Apart.mk; decide)) only [go_sem, Nat.reduceAdd, Nat.reduceLT, Nat.reduceMul, Nat.reduceLeDiff, Nat.lt_irrefl, Int.reduceToNat, Int.reduceLT, Int.reduceLE, c4, c6, c10]; rfl) ?_
            refine (w_n ?_)
            refine w_seq ?_
            refine w_seq ?_
            obtain ⟨b, n11, e12, g13, hr⟩ := hr.idx
            refine w_region rfl (by simp (disch := (apply Apart.mk; decide)) only [go_sem, Nat.reduceAdd, Nat.reduceLT, Nat.reduceMul, Nat.reduceLeDiff, Nat.lt_irrefl, Int.reduceToNat, Int.reduceLT, Int.reduceLE, n11, e12, g13, c4, c6, c10]; rfl) ?_
            refine (w_n ?_)
            refine w_K (D := (Aft W1 D)) (fun x : Int => ⟨[(1, .cv (.val (.ptr (some (h.n + 0, 0))))), (5, .cv (.val (.sl (List.map eI r2.1)))), (7, .cv (.val (.int .i64 s))), (8, .cv (.val (.int .i64 x)))], h.on [some (.cells [.val (.sl (List.map eB g.Final)), .val (.sl (List.map (eL eEdge) g.Edges))])]⟩) (fun x : Int => scansionlaw17_DawgSum.k3 g r2 s x) (fun x s' hr ht => ?_) ?_
            · obtain ⟨n, rfl⟩ : ∃ z, z = x := ⟨x, rfl⟩
              dsimp only [scansionlaw17_DawgSum.k3] at hr ht
              refine (w_nT ht ?_)
              refine w_seq ?_
              refine w_seq ?_
              refine w_region rfl (by simp (disch := (apply Apart.mk; decide)) only [go_sem, Nat.reduceAdd, Nat.reduceLT, Nat.reduceMul, Nat.reduceLeDiff, Nat.lt_irrefl, Int.reduceToNat, Int.reduceLT, Int.reduceLE, c4, c6, c10]; rfl) ?_
              refine (w_n ?_)
              refine w_K (D := (Aft W1 D)) (fun x : Int => ⟨[(1, .cv (.val (.ptr (some (h.n + 0, 0))))), (5, .cv (.val (.sl (List.map eI r2.1)))), (7, .cv (.val (.int .i64 s))), (8, .cv (.val (.int .i64 x)))], h.on [some (.cells [.val (.sl (List.map eB g.Final)), .val (.sl (List.map (eL eEdge) g.Edges))])]⟩) (fun x : Int => scansionlaw17_DawgSum.k4 r2 s x) (fun x s' hr ht => ?_) ?_
              · obtain ⟨n1, rfl⟩ : ∃ z, z = x := ⟨x, rfl⟩
                dsimp only [scansionlaw17_DawgSum.k4] at hr ht
                refine (w_nT ht ?_)
                refine w_seq ?_
                obtain ⟨n2, n14, e15, g16, hr⟩ := hr.idx
                refine w_region rfl (by simp (disch := (apply Apart.mk; decide)) only [go_sem, Nat.reduceAdd, Nat.reduceLT, Nat.reduceMul, Nat.reduceLeDiff, Nat.lt_irrefl, Int.reduceToNat, Int.reduceLT, Int.reduceLE, n14, e15, g16, c4, c6, c10]; rfl) ?_
                refine (w_n ?_)
                refine w_condH (by simp (disch := (apply Apart.mk; decide)) only [go_sem, Nat.reduceAdd, Nat.reduceLT, Nat.reduceMul, Nat.reduceLeDiff, Nat.lt_irrefl, Int.reduceToNat, Int.reduceLT, Int.reduceLE, c4, c6, c10]) hr (fun c17 hr => ?_) (fun c17 hr => ?_)
                · refine w_seq ?_
                  refine w_region rfl (by simp (disch := (apply Apart.mk; decide)) only [go_sem, Nat.reduceAdd, Nat.reduceLT, Nat.reduceMul, Nat.reduceLeDiff, Nat.lt_irrefl, Int.reduceToNat, Int.reduceLT, Int.reduceLE, c4, c6, c10, c17]; rfl) ?_
                  refine (w_n ?_)
                  refine w_ret ?_
                  obtain rfl := hD _ hr
                  exact (w_br (w_tr (w_tr (w_tr (w_br (w_tr (w_tr (w_endR (To.cut (os' := []) (sl := [(2, .cv (.val (.bool false)))]) hwf (Nat.le_refl _) rfl (by simp (disch := (apply Apart.mk; decide)) only [go_sem, Nat.reduceAdd, Nat.reduceLT, Nat.reduceMul, Nat.reduceLeDiff, Nat.lt_irrefl, Int.reduceToNat, Int.reduceLT, Int.reduceLE, c4, c6, c10, c17])) (by simp (disch := (apply Apart.mk; decide)) only [go_sem, Nat.reduceAdd, Nat.reduceLT, Nat.reduceMul, Nat.reduceLeDiff, Nat.lt_irrefl, Int.reduceToNat, Int.reduceLT, Int.reduceLE, Try.results7, results_data CT_gives7, resCell, resVal.eq_2, loadOp_sv, c4, c6, c10, c17]) ⟨rfl, on_nil hwf⟩))))))))
                · refine w_skip ?_
                  exact (w_bn (w_k ⟨(), hr, (To.cut hwf (Nat.le_refl _) rfl (by simp (disch := (apply Apart.mk; decide)) only [go_sem, Nat.reduceAdd, Nat.reduceLT, Nat.reduceMul, Nat.reduceLeDiff, Nat.lt_irrefl, Int.reduceToNat, Int.reduceLT, Int.reduceLE, c4, c6, c10, c17]))⟩))
              · refine w_block ?_
                refine w_Loop (fun x : (Int × Int) => ⟨[(1, .cv (.val (.ptr (some (h.n + 0, 0))))), (5, .cv (.val (.sl (List.map eI r2.1)))), (7, .cv (.val (.int .i64 s))), (8, .cv (.val (.int .i64 x.1))), (9, .cv (.val (.int .i64 x.2)))], h.on [some (.cells [.val (.sl (List.map eB g.Final)), .val (.sl (List.map (eL eEdge) g.Edges))])]⟩) hr (To.cut hwf (Nat.le_refl _) rfl (by simp (disch := (apply Apart.mk; decide)) only [go_sem, Nat.reduceAdd, Nat.reduceLT, Nat.reduceMul, Nat.reduceLeDiff, Nat.lt_irrefl, Int.reduceToNat, Int.reduceLT, Int.reduceLE, c4, c6, c10])) (fun W2 x hr => ?_)
                obtain ⟨n3, k⟩ := x
                dsimp only [scansionlaw17_DawgSum.b2] at hr
                refine w_seq ?_
                refine w_seq ?_
                obtain ⟨xs, n18, e19, g20, hr⟩ := hr.idx
                refine w_region rfl (by simp (disch := (apply Apart.mk; decide)) only [go_sem, Nat.reduceAdd, Nat.reduceLT, Nat.reduceMul, Nat.reduceLeDiff, Nat.lt_irrefl, Int.reduceToNat, Int.reduceLT, Int.reduceLE, n18, e19, g20, c4, c6, c10]; rfl) ?_
                refine (w_n ?_)
                refine w_condH (by simp (disch := (apply Apart.mk; decide)) only [go_sem, Nat.reduceAdd, Nat.reduceLT, Nat.reduceMul, Nat.reduceLeDiff, Nat.lt_irrefl, Int.reduceToNat, Int.reduceLT, Int.reduceLE, c4, c6, c10]) hr (fun c21 hr => ?_) (fun c21 hr => ?_)
                · refine w_skip ?_
                  refine (w_n ?_)
                  refine w_seq ?_
                  refine w_block ?_
                  obtain ⟨x, n22, e23, g24, hr⟩ := hr.idx
                  obtain ⟨n4, n25, e26, g27, hr⟩ := hr.idx
                  refine w_region rfl (by simp (disch := (apply Apart.mk; decide)) only [go_sem, Nat.reduceAdd, Nat.reduceLT, Nat.reduceMul, Nat.reduceLeDiff, Nat.lt_irrefl, Int.reduceToNat, Int.reduceLT, Int.reduceLE, n18, e19, g20, n22, e23, g24, n25, e26, g27, c4, c6, c10, c21]; rfl) ?_
                  refine (w_bn (w_n ?_))
                  refine w_region rfl (by simp (disch := (apply Apart.mk; decide)) only [go_sem, Nat.reduceAdd, Nat.reduceLT, Nat.reduceMul, Nat.reduceLeDiff, Nat.lt_irrefl, Int.reduceToNat, Int.reduceLT, Int.reduceLE, c4, c6, c10, c21]; rfl) ?_
                  exact (w_k ⟨((IntKind.i64.wrap (n3 + n4)), (IntKind.i64.wrap (k + (1 : Int)))), hr, (To.cut hwf (Nat.le_refl _) rfl (by simp (disch := (apply Apart.mk; decide)) only [go_sem, Nat.reduceAdd, Nat.reduceLT, Nat.reduceMul, Nat.reduceLeDiff, Nat.lt_irrefl, Int.reduceToNat, Int.reduceLT, Int.reduceLE, c4, c6, c10, c21]))⟩)
                · refine w_exit ?_
                  exact (w_te (w_te (w_bx (w_k ⟨n3, (hr).map, (To.cut hwf (Nat.le_refl _) rfl (by simp (disch := (apply Apart.mk; decide)) only [go_sem, Nat.reduceAdd, Nat.reduceLT, Nat.reduceMul, Nat.reduceLeDiff, Nat.lt_irrefl, Int.reduceToNat, Int.reduceLT, Int.reduceLE, c4, c6, c10, c21]))⟩))))
            · refine w_condH (by simp (disch := (apply Apart.mk; decide)) only [go_sem, Nat.reduceAdd, Nat.reduceLT, Nat.reduceMul, Nat.reduceLeDiff, Nat.lt_irrefl, Int.reduceToNat, Int.reduceLT, Int.reduceLE, c4, c6, c10]) hr (fun c28 hr => ?_) (fun c28 hr => ?_)
              · refine w_region rfl (by simp (disch := (apply Apart.mk; decide)) only [go_sem, Nat.reduceAdd, Nat.reduceLT, Nat.reduceMul, Nat.reduceLeDiff, Nat.lt_irrefl, Int.reduceToNat, Int.reduceLT, Int.reduceLE, c4, c6, c10, c28]; rfl) ?_
                exact (w_k ⟨(1 : Int), hr, (To.cut hwf (Nat.le_refl _) rfl (by simp (disch := (apply Apart.mk; decide)) only [go_sem, Nat.reduceAdd, Nat.reduceLT, Nat.reduceMul, Nat.reduceLeDiff, Nat.lt_irrefl, Int.reduceToNat, Int.reduceLT, Int.reduceLE, c4, c6, c10, c28]))⟩)
              · refine w_skip ?_
                exact (w_k ⟨(0 : Int), hr, (To.cut hwf (Nat.le_refl _) rfl (by simp (disch := (apply Apart.mk; decide)) only [go_sem, Nat.reduceAdd, Nat.reduceLT, Nat.reduceMul, Nat.reduceLeDiff, Nat.lt_irrefl, Int.reduceToNat, Int.reduceLT, Int.reduceLE, c4, c6, c10, c28]))⟩)
        · refine w_exit ?_
          exact (w_te (w_te (w_bx (w_k ⟨(), (hr).map, (To.cut hwf (Nat.le_refl _) rfl (by simp (disch := (apply Apart.mk; decide)) only [go_sem, Nat.reduceAdd, Nat.reduceLT, Nat.reduceMul, Nat.reduceLeDiff, Nat.lt_irrefl, Int.reduceToNat, Int.reduceLT, Int.reduceLE, c4, c6, c10]))⟩))))
end Go.Val

/- part P1 -/
/- Plain lemmas: loops that are read off. -/
namespace Go.Val
set_option linter.unusedVariables false

theorem w64 {n : Int} (h1 : -9223372036854775808 ≤ n) (h2 : n ≤ 9223372036854775807) : IntKind.i64.wrap n = n := by rw [IntKind.wrap_i64]; omega
theorem w64s {i : Nat} (h : i < 9223372036854775807) : IntKind.i64.wrap ((i : Int) + 1) = ((i + 1 : Nat) : Int) := by rw [w64 (by omega) (by omega)]; omega
theorem idx_nat {α : Type} {xs : List α} {i : Nat} : idx xs (i : Int) = xs[i]? := by
  unfold idx; rw [if_neg (by omega)]; simp
theorem idx_some {α : Type} {xs : List α} {i : Int} {x : α} (h0 : 0 ≤ i) (h : xs[i.toNat]? = some x) : idx xs i = some x := by
  unfold idx; rw [if_neg (by omega)]; exact h
theorem room_ok {sz n : Nat} (h : n * sz ≤ 140737488355328) : room sz n = some () := by
  unfold room roomOf; rw [if_pos h]
theorem roomS_ok {n : Nat} (h : n ≤ 9223372036854775807) : roomS n = some () := by
  unfold roomS; rw [if_neg (by simp [IntKind.max, IntKind.signed, IntKind.bits]; omega)]
theorem mk_ok {α : Type} {sz : Nat} {z : α} {n : Nat} (h : n * sz ≤ 140737488355328) : mk sz z (n : Int) = some (List.replicate n z) := by
  unfold mk roomOf; rw [if_pos ⟨by omega, by simpa using h⟩]; simp

theorem snoc_ind {α : Type} {P : List α → Prop} (h0 : P []) (h1 : ∀ l x, P l → P (l ++ [x])) (l : List α) : P l := by
  have key : ∀ l : List α, P l.reverse := by
    intro l
    induction l with
    | nil => exact h0
    | cons x l ih => rw [List.reverse_cons]; exact h1 _ _ ih
  have := key l.reverse
  rwa [List.reverse_reverse] at this
/-- Rounds that go on, one by one. -/
theorem Loop_run {σ ρ : Type} {b : σ → Option (Step σ ρ)} (st : Nat → σ) {i n : Nat} (hin : i ≤ n) (h : ∀ j, i ≤ j → j < n → b (st j) = some (.next (st (j + 1)))) : Loop b (st i) = Loop b (st n) := by
  induction n with
  | zero => obtain rfl : i = 0 := by omega
            rfl
  | succ n ih =>
    by_cases e : i = n + 1
    · rw [e]
    · rw [ih (by omega) fun j h1 h2 => h j h1 (by omega)]
      exact Loop_next (h n (by omega) (by omega))
theorem Loop_int {ρ : Type} {b : Int → Option (Step Int ρ)} {i n : Nat} (hin : i ≤ n) (h : ∀ j : Nat, i ≤ j → j < n → b j = some (.next ((j + 1 : Nat) : Int))) : Loop b (i : Int) = Loop b (n : Int) := Loop_run (fun j : Nat => (j : Int)) hin h
/-- A loop's end. -/
theorem Loop_end {σ ρ : Type} {b : σ → Option (Step σ ρ)} {s : σ} {R : Option ρ} (h : b s = R.map Step.done) : Loop b s = R := by
  cases R with
  | some r => exact Loop_done h
  | none =>
    apply Option.ext_some
    · intro r hr
      obtain ⟨n, hn⟩ := Loop_get hr
      cases n with
      | zero => simp [rounds] at hn
      | succ n => simp [rounds, h] at hn
    · intro r hr; cases hr
open Classical in
/-- A loop that looks for what is bad. -/
theorem Loop_all {ρ : Type} {b : Int → Option (Step Int ρ)} (P : Nat → Prop) {n : Nat} {r R : ρ} (hg : ∀ j, j < n → P j → b (j : Int) = some (.next ((j + 1 : Nat) : Int))) (hb : ∀ j, j < n → ¬ P j → b (j : Int) = some (.done r)) (he : b (n : Int) = some (.done R)) :
    ∀ (d i : Nat), i + d = n → Loop b (i : Int) = if ∀ j, i ≤ j → j < n → P j then some R else some r := by
  intro d
  induction d with
  | zero =>
    intro i hi
    obtain rfl : i = n := by omega
    rw [if_pos (fun j h1 h2 => by omega)]
    exact Loop_done he
  | succ d ih =>
    intro i hi
    by_cases hp : P i
    · rw [Loop_next (hg i (by omega) hp), ih (i + 1) (by omega)]
      have : (∀ j, i + 1 ≤ j → j < n → P j) ↔ ∀ j, i ≤ j → j < n → P j := by
        constructor
        · intro h j h1 h2
          by_cases e : j = i
          · rw [e]; exact hp
          · exact h j (by omega) h2
        · intro h j h1 h2; exact h j (by omega) h2
      simp only [this]
    · rw [Loop_done (hb i (by omega) hp), if_neg (fun h => hp (h i (Nat.le_refl _) (by omega)))]
theorem Loop_all0 {ρ : Type} {b : Int → Option (Step Int ρ)} (P : Nat → Prop) (n : Nat) {r R : ρ} (hg : ∀ j, j < n → P j → b (j : Int) = some (.next ((j + 1 : Nat) : Int))) (hb : ∀ j, j < n → ¬ P j → b (j : Int) = some (.done r)) (he : b (n : Int) = some (.done R)) :
    ((∀ j, j < n → P j) → Loop b 0 = some R) ∧ ((¬ ∀ j, j < n → P j) → Loop b 0 = some r) := by
  have := Loop_all P hg hb he n 0 (by omega)
  exact ⟨fun h => by rw [if_pos (fun j _ hj => h j hj)] at this; exact this, fun h => by rw [if_neg (fun h' => h fun j hj => h' j (Nat.zero_le _) hj)] at this; exact this⟩
end Go.Val

/- part P2 -/
/- Plain lemmas: graphs that may be. -/
namespace Go.Val
set_option linter.unusedVariables false
def EdgeOk (s : Nat) (xs : List TEdge) (k : Nat) : Prop := ∀ x, xs[k]? = some x → 0 ≤ x.To ∧ x.To < s ∧ (0 < k → ∀ x1, xs[k - 1]? = some x1 → x1.Label.toNat < x.Label.toNat)
def RowOk (s : Nat) (xs : List TEdge) : Prop := ∀ k, k < xs.length → EdgeOk s xs k
structure RightP (g : TGraph) : Prop where
  lo : 1 ≤ g.Final.length
  hi : g.Final.length ≤ 65536
  len : g.Edges.length = g.Final.length
  rows : ∀ s, s < g.Edges.length → ∀ xs, g.Edges[s]? = some xs → RowOk s xs
/-- No row is longer than memory. -/
def Short (g : TGraph) : Prop := ∀ xs ∈ g.Edges, xs.length ≤ 140737488355328

def chk (s : Int) (xs : List TEdge) (k : Int) (x : TEdge) : Option Bool :=
  if (decide (x.To < (0 : Int))) then some true
  else if (decide (x.To ≥ s)) then some true
  else if (decide (k > (0 : Int))) then
    (idx xs (IntKind.i64.wrap (k - (1 : Int)))).bind fun x1 => some (decide ((x.Label.toNat : Int) ≤ (x1.Label.toNat : Int)))
  else some false
theorem chk_eq {s k : Nat} {xs : List TEdge} {x : TEdge} (hk : xs[k]? = some x) (hl : xs.length ≤ 140737488355328) : ∃ v, chk s xs k x = some v ∧ (v = true ↔ ¬ EdgeOk s xs k) := by
  have hlt : k < xs.length := (List.getElem?_eq_some_iff.1 hk).1
  unfold chk
  by_cases h1 : x.To < 0
  · exact ⟨true, by simp [h1], by simp; intro h; have := (h x hk).1; omega⟩
  by_cases h2 : x.To ≥ s
  · exact ⟨true, by simp [h1, h2], by simp; intro h; have := (h x hk).2.1; omega⟩
  by_cases h3 : 0 < k
  · have hlt1 : k - 1 < xs.length := by omega
    have h4 : xs[k - 1]? = some (xs[k - 1]) := List.getElem?_eq_getElem hlt1
    have e : IntKind.i64.wrap ((k : Int) - 1) = ((k - 1 : Nat) : Int) := by rw [w64 (by omega) (by omega)]; omega
    refine ⟨decide ((x.Label.toNat : Int) ≤ (xs[k - 1].Label.toNat : Int)), ?_, ?_⟩
    · rw [if_neg (by simp; omega), if_neg (by simp; omega), if_pos (by simp; omega), e, idx_nat, h4]; rfl
    · simp only [decide_eq_true_eq]
      constructor
      · intro h hok
        have := (hok x hk).2.2 h3 _ h4
        omega
      · intro h
        by_cases hc : (x.Label.toNat : Int) ≤ (xs[k - 1].Label.toNat : Int)
        · exact hc
        · exfalso; apply h
          intro y hy
          rw [hk] at hy; cases hy
          exact ⟨by omega, by omega, fun _ x1 hx1 => by rw [h4] at hx1; cases hx1; omega⟩
  · refine ⟨false, ?_, ?_⟩
    · rw [if_neg (by simp; omega), if_neg (by simp; omega), if_neg (by simp; omega)]
    · simp only [Bool.false_eq_true, false_iff, Classical.not_not]
      intro y hy
      rw [hk] at hy; cases hy
      exact ⟨by omega, by omega, fun h => absurd h h3⟩

theorem dawg_Right_row {s : Nat} {xs : List TEdge} (hs : s ≤ 65536) (hl : xs.length ≤ 140737488355328) : (RowOk s xs → Loop (dawg_Right.b2 s xs) 0 = some (.next ((s + 1 : Nat) : Int))) ∧ (¬ RowOk s xs → Loop (dawg_Right.b2 s xs) 0 = some (.done false)) := by
  refine Loop_all0 (fun k => EdgeOk s xs k) xs.length (fun k hk hp => ?_) (fun k hk hp => ?_) ?_
  · have hx : xs[k]? = some xs[k] := List.getElem?_eq_getElem hk
    obtain ⟨v, h1, h2⟩ := chk_eq (s := s) hx hl
    have hv : v = false := by cases v with
      | true => exact absurd hp (h2.1 rfl)
      | false => rfl
    unfold dawg_Right.b2
    rw [if_pos (by simp; omega), idx_nat, hx]
    show (chk s xs k xs[k]).bind _ = _
    rw [h1, hv]
    simp [w64s (show k < 9223372036854775807 by omega)]
  · have hx : xs[k]? = some xs[k] := List.getElem?_eq_getElem hk
    obtain ⟨v, h1, h2⟩ := chk_eq (s := s) hx hl
    have hv : v = true := h2.2 hp
    unfold dawg_Right.b2
    rw [if_pos (by simp; omega), idx_nat, hx]
    show (chk s xs k xs[k]).bind _ = _
    rw [h1, hv]
    rfl
  · unfold dawg_Right.b2
    rw [if_neg (by simp)]
    simp [dawg_Right.k2, w64s (show s < 9223372036854775807 by omega)]
theorem ref_Right_row {g : TGraph} {s : Nat} {xs : List TEdge} (hg : g.Edges[s]? = some xs) (hs : s ≤ 65536) (hl : xs.length ≤ 140737488355328) : (RowOk s xs → Loop (scansionref17_Right.b2 g s) 0 = some (.next ((s + 1 : Nat) : Int))) ∧ (¬ RowOk s xs → Loop (scansionref17_Right.b2 g s) 0 = some (.done false)) := by
  refine Loop_all0 (fun k => EdgeOk s xs k) xs.length (fun k hk hp => ?_) (fun k hk hp => ?_) ?_
  · have hx : xs[k]? = some xs[k] := List.getElem?_eq_getElem hk
    obtain ⟨v, h1, h2⟩ := chk_eq (s := s) hx hl
    have hv : v = false := by cases v with
      | true => exact absurd hp (h2.1 rfl)
      | false => rfl
    unfold scansionref17_Right.b2
    rw [idx_nat, hg, Option.bind_some, if_pos (by simp; omega), idx_nat, hx]
    show (chk s xs k xs[k]).bind _ = _
    rw [h1, hv]
    simp [w64s (show k < 9223372036854775807 by omega)]
  · have hx : xs[k]? = some xs[k] := List.getElem?_eq_getElem hk
    obtain ⟨v, h1, h2⟩ := chk_eq (s := s) hx hl
    have hv : v = true := h2.2 hp
    unfold scansionref17_Right.b2
    rw [idx_nat, hg, Option.bind_some, if_pos (by simp; omega), idx_nat, hx]
    show (chk s xs k xs[k]).bind _ = _
    rw [h1, hv]
    rfl
  · unfold scansionref17_Right.b2
    rw [idx_nat, hg, Option.bind_some, if_neg (by simp)]
    simp [scansionref17_Right.k2, w64s (show s < 9223372036854775807 by omega)]

open Classical in
theorem dawg_Right_eq {g : TGraph} (hs : Short g) : dawg_Right g = some (decide (RightP g)) := by
  unfold dawg_Right
  split
  · rename_i h
    have : ¬ RightP g := fun hr => by
      have h1 := hr.lo; have h2 := hr.hi; have h3 := hr.len
      simp at h; omega
    simp [this]
  · rename_i h
    simp at h
    obtain ⟨k1, k2⟩ := Loop_all0 (b := dawg_Right.b1 g) (fun s => ∀ xs, g.Edges[s]? = some xs → RowOk s xs) g.Edges.length (r := false) (R := true) (fun s hlt hp => by
        have hx : g.Edges[s]? = some g.Edges[s] := List.getElem?_eq_getElem hlt
        unfold dawg_Right.b1
        rw [if_pos (by simp; omega), idx_nat, hx, Option.bind_some, (dawg_Right_row (by omega) (hs _ (List.getElem_mem hlt))).1 (hp _ hx)])
      (fun s hlt hp => by
        have hx : g.Edges[s]? = some g.Edges[s] := List.getElem?_eq_getElem hlt
        unfold dawg_Right.b1
        rw [if_pos (by simp; omega), idx_nat, hx, Option.bind_some, (dawg_Right_row (by omega) (hs _ (List.getElem_mem hlt))).2 (fun h => hp fun xs he => by rw [hx] at he; cases he; exact h)])
      (by unfold dawg_Right.b1; rw [if_neg (by simp)]; rfl)
    by_cases hr : RightP g
    · rw [k1 hr.rows]; simp [hr]
    · rw [k2 (fun hrows => hr ⟨by omega, by omega, by omega, hrows⟩)]; simp [hr]
open Classical in
theorem ref_Right_eq {g : TGraph} (hs : Short g) : scansionref17_Right g = some (decide (RightP g)) := by
  unfold scansionref17_Right
  split
  · rename_i h
    have : ¬ RightP g := fun hr => by
      have h1 := hr.lo; have h2 := hr.hi; have h3 := hr.len
      simp at h; omega
    simp [this]
  · rename_i h
    simp at h
    obtain ⟨k1, k2⟩ := Loop_all0 (b := scansionref17_Right.b1 g) (fun s => ∀ xs, g.Edges[s]? = some xs → RowOk s xs) g.Final.length (r := false) (R := true) (fun s hlt hp => by
        have hx : g.Edges[s]? = some (g.Edges[s]'(by omega)) := List.getElem?_eq_getElem _
        unfold scansionref17_Right.b1
        rw [if_pos (by simp; omega), (ref_Right_row hx (by omega) (hs _ (List.getElem_mem _))).1 (hp _ hx)])
      (fun s hlt hp => by
        have hx : g.Edges[s]? = some (g.Edges[s]'(by omega)) := List.getElem?_eq_getElem _
        unfold scansionref17_Right.b1
        rw [if_pos (by simp; omega), (ref_Right_row hx (by omega) (hs _ (List.getElem_mem _))).2 (fun h => hp fun xs he => by rw [hx] at he; cases he; exact h)])
      (by unfold scansionref17_Right.b1; rw [if_neg (by simp)]; rfl)
    by_cases hr : RightP g
    · rw [k1 (fun s hlt => hr.rows s (by omega))]; simp [hr]
    · rw [k2 (fun hrows => hr ⟨by omega, by omega, by omega, fun s hlt => hrows s (by omega)⟩)]; simp [hr]
end Go.Val

/- part P3 -/
/- Plain lemmas: how many words lead to an end. -/
namespace Go.Val
set_option linter.unusedVariables false
def cap : Int := 1099511627776
def crow (cs : List Int) (n : Int) (xs : List TEdge) : Int := xs.foldl (fun n x => mn (n + cs.getD x.To.toNat 0) cap) n
def cstep (cs : List Int) (p : Bool × List TEdge) : Int := crow cs (if p.1 then 1 else 0) p.2
def counts (rows : List (Bool × List TEdge)) : List Int := rows.foldl (fun cs p => cs ++ [cstep cs p]) []
def rowsOf (g : TGraph) : List (Bool × List TEdge) := g.Final.zip g.Edges

theorem counts_snoc {rows : List (Bool × List TEdge)} {p : Bool × List TEdge} : counts (rows ++ [p]) = counts rows ++ [cstep (counts rows) p] := by simp [counts]
theorem counts_len (rows : List (Bool × List TEdge)) : (counts rows).length = rows.length := by
  induction rows using snoc_ind with
  | h0 => rfl
  | h1 rows p ih => rw [counts_snoc]; simp [ih]
theorem mn_le {a b : Int} : mn a b ≤ b ∧ mn a b ≤ a := by unfold mn; split <;> omega
theorem mn_ge {a b c : Int} (h1 : c ≤ a) (h2 : c ≤ b) : c ≤ mn a b := by unfold mn; split <;> omega
theorem getD_bound {cs : List Int} (hc : ∀ c ∈ cs, 0 ≤ c ∧ c ≤ cap) (i : Nat) : 0 ≤ cs.getD i 0 ∧ cs.getD i 0 ≤ cap := by
  rw [List.getD_eq_getElem?_getD]
  cases h : cs[i]? with
  | none => simp [cap]
  | some c => simpa using hc c (List.mem_of_getElem? h)
theorem crow_bound {cs : List Int} (hc : ∀ c ∈ cs, 0 ≤ c ∧ c ≤ cap) : ∀ (xs : List TEdge) {n : Int}, 0 ≤ n → n ≤ cap → 0 ≤ crow cs n xs ∧ crow cs n xs ≤ cap
  | [], n, h1, h2 => ⟨h1, h2⟩
  | x :: xs, n, h1, h2 => by
    have hb := getD_bound hc x.To.toNat
    exact crow_bound hc xs (mn_ge (by omega) (by simp [cap])) mn_le.1
theorem counts_bound (rows : List (Bool × List TEdge)) : ∀ c ∈ counts rows, 0 ≤ c ∧ c ≤ cap := by
  induction rows using snoc_ind with
  | h0 => intro c hc; simp [counts] at hc
  | h1 rows p ih =>
    intro c hc
    rw [counts_snoc] at hc
    rcases List.mem_append.1 hc with hc | hc
    · exact ih c hc
    · simp at hc; subst hc
      exact crow_bound ih _ (by split <;> omega) (by split <;> simp [cap])
theorem counts_take (rows : List (Bool × List TEdge)) (s : Nat) : counts (rows.take s) = (counts rows).take s := by
  induction rows using snoc_ind with
  | h0 => simp [counts]
  | h1 rows p ih =>
    by_cases h : s ≤ rows.length
    · rw [List.take_append_of_le_length h, ih, counts_snoc, List.take_append_of_le_length (by rw [counts_len]; exact h)]
    · rw [List.take_of_length_le (by simp; omega), List.take_of_length_le (by rw [counts_len]; simp; omega)]
theorem rows_at {g : TGraph} {s : Nat} {f : Bool} {xs : List TEdge} (h1 : g.Final[s]? = some f) (h2 : g.Edges[s]? = some xs) : (rowsOf g)[s]? = some (f, xs) := by
  simp [rowsOf, List.zip, List.getElem?_zipWith, h1, h2]
theorem rows_len {g : TGraph} (h : g.Edges.length = g.Final.length) : (rowsOf g).length = g.Final.length := by simp [rowsOf, h]
theorem take_snoc {α : Type} {l : List α} {s : Nat} {x : α} (h : l[s]? = some x) : l.take (s + 1) = l.take s ++ [x] := by
  rw [List.take_add_one, h]; rfl
theorem counts_next {g : TGraph} {s : Nat} {f : Bool} {xs : List TEdge} (h1 : g.Final[s]? = some f) (h2 : g.Edges[s]? = some xs) : counts ((rowsOf g).take (s + 1)) = counts ((rowsOf g).take s) ++ [crow (counts ((rowsOf g).take s)) (if f then 1 else 0) xs] := by
  rw [take_snoc (rows_at h1 h2), counts_snoc]; rfl
theorem crow_snoc {cs : List Int} {n : Int} {xs : List TEdge} {x : TEdge} : crow cs n (xs ++ [x]) = mn (crow cs n xs + cs.getD x.To.toNat 0) cap := by simp [crow]

/-- The document's Count. -/
theorem ref_Count_row {g : TGraph} {s : Nat} {xs : List TEdge} {f : Bool} (hg : g.Edges[s]? = some xs) (hf : g.Final[s]? = some f) (hs : s < 65536) (hl : xs.length ≤ 140737488355328) (hr : RowOk s xs) (hlen : s ≤ (rowsOf g).length) {n : Int} (hn : n = if f then 1 else 0) :
    Loop (scansionref17_Count.b2 g (counts ((rowsOf g).take s)) s) (n, 0) = some (.next (counts ((rowsOf g).take (s + 1)), ((s + 1 : Nat) : Int))) := by
  have hcl : (counts ((rowsOf g).take s)).length = s := by rw [counts_len]; simp; omega
  have hcb := counts_bound ((rowsOf g).take s)
  generalize hcs : counts ((rowsOf g).take s) = cs at *
  have := Loop_run (b := scansionref17_Count.b2 g cs s) (fun k => (crow cs n (xs.take k), (k : Int))) (i := 0) (n := xs.length) (Nat.zero_le _) (fun k _ hk => by
    have hx : xs[k]? = some xs[k] := List.getElem?_eq_getElem hk
    have hok := hr k hk _ hx
    have hb := crow_bound hcb (xs.take k) (n := n) (by rw [hn]; split <;> omega) (by rw [hn]; split <;> simp [cap])
    have hc : cs[xs[k].To.toNat]? = some (cs[xs[k].To.toNat]'(by omega)) := List.getElem?_eq_getElem _
    have hgd : cs.getD xs[k].To.toNat 0 = cs[xs[k].To.toNat]'(by omega) := by rw [List.getD_eq_getElem?_getD, hc]; rfl
    have hb2 := getD_bound hcb xs[k].To.toNat
    rw [scansionref17_Count.b2, idx_nat, hg, Option.bind_some, if_pos (by simp; omega), idx_nat, hx, Option.bind_some, idx_some hok.1 hc, Option.bind_some, w64s (by omega), take_snoc hx, crow_snoc, hgd]
    rw [hgd] at hb2
    simp only [cap] at hb hb2
    rw [w64 (by omega) (by omega)]
    rfl)
  simp only [List.take_zero, List.take_length] at this
  have e0 : crow cs n [] = n := rfl
  rw [e0] at this
  rw [show ((0 : Nat) : Int) = 0 from rfl] at this
  rw [this]
  apply Loop_end
  rw [scansionref17_Count.b2, idx_nat, hg, Option.bind_some, if_neg (by simp)]
  unfold scansionref17_Count.k4 scansionref17_Count.k2
  rw [room_ok (by omega), Option.bind_some, w64s (by omega), counts_next hf hg, hcs, hn]
theorem ref_Count_eq {g : TGraph} (hs : Short g) (hr : RightP g) : scansionref17_Count g = some (counts (rowsOf g), 0) := by
  unfold scansionref17_Count
  rw [ref_Right_eq hs, Option.bind_some, if_neg (by simp [hr])]
  have hl := rows_len hr.len
  have := Loop_run (b := scansionref17_Count.b1 g) (fun s => (counts ((rowsOf g).take s), (s : Int))) (i := 0) (n := g.Final.length) (Nat.zero_le _) (fun s _ hlt => by
    have h1 : g.Final[s]? = some g.Final[s] := List.getElem?_eq_getElem hlt
    have h2 : g.Edges[s]? = some (g.Edges[s]'(by have := hr.len; omega)) := List.getElem?_eq_getElem _
    have hrow := hr.rows s (by have := hr.len; omega) _ h2
    have hi := hr.hi
    rw [scansionref17_Count.b1, if_pos (by simp; omega), idx_nat, h1, Option.bind_some]
    split
    · rename_i hf
      exact ref_Count_row h2 h1 (by omega) (hs _ (List.getElem_mem _)) hrow (by omega) (by simp [hf])
    · rename_i hf
      exact ref_Count_row h2 h1 (by omega) (hs _ (List.getElem_mem _)) hrow (by omega) (by simp [hf]))
  simp only [List.take_zero] at this
  rw [show ((0 : Nat) : Int) = 0 from rfl] at this
  rw [show counts [] = [] from rfl] at this
  rw [this]
  apply Loop_end
  rw [scansionref17_Count.b1, if_neg (by simp)]
  unfold scansionref17_Count.k1
  rw [List.take_of_length_le (by omega)]
theorem ref_Count_bad {g : TGraph} (hs : Short g) (hr : ¬ RightP g) : scansionref17_Count g = some ([], 1) := by
  unfold scansionref17_Count
  rw [ref_Right_eq hs, Option.bind_some, if_pos (by simp [hr])]

/-- The program's Count: the list is there from the first, and filled. -/
def filled (cs : List Int) (n : Nat) : List Int := cs ++ List.replicate (n - cs.length) 0
theorem filled_get {cs : List Int} {n i : Nat} (h : i < cs.length) : (filled cs n)[i]? = some cs[i] := by
  simp [filled, List.getElem?_append_left h, List.getElem?_eq_getElem h]
theorem filled_set {cs : List Int} {n : Nat} {v : Int} (h : cs.length < n) (m : Int) : (cs ++ m :: List.replicate (n - cs.length - 1) 0).set cs.length v = cs ++ v :: List.replicate (n - cs.length - 1) 0 := by
  rw [List.set_append_right _ _ (Nat.le_refl _)]; simp
theorem filled_eq {cs : List Int} {n : Nat} (h : cs.length < n) : filled cs n = cs ++ 0 :: List.replicate (n - cs.length - 1) 0 := by
  unfold filled
  obtain ⟨m, hm⟩ : ∃ m, n - cs.length = m + 1 := ⟨n - cs.length - 1, by omega⟩
  rw [hm]; simp [List.replicate_succ]
theorem filled_snoc {cs : List Int} {n : Nat} {v : Int} (h : cs.length < n) : cs ++ v :: List.replicate (n - cs.length - 1) 0 = filled (cs ++ [v]) n := by
  unfold filled
  simp only [List.length_append, List.length_cons, List.length_nil, List.append_assoc, List.cons_append, List.nil_append]
  congr 3
theorem dawg_Count_row {g : TGraph} {s N : Nat} {xs : List TEdge} {f : Bool} (hg : g.Edges[s]? = some xs) (hf : g.Final[s]? = some f) (hs : s < N) (hN : N ≤ 65536) (hl : xs.length ≤ 140737488355328) (hr : RowOk s xs) (hlen : s ≤ (rowsOf g).length) {n : Int} (hn : n = if f then 1 else 0) {cs : List Int} (hcs : counts ((rowsOf g).take s) = cs) :
    Loop (dawg_Count.b2 s xs) (cs ++ n :: List.replicate (N - cs.length - 1) 0, 0) = some (.next (filled (counts ((rowsOf g).take (s + 1))) N, ((s + 1 : Nat) : Int))) := by
  have hcl : cs.length = s := by rw [← hcs, counts_len]; simp; omega
  have hcb : ∀ c ∈ cs, 0 ≤ c ∧ c ≤ cap := by rw [← hcs]; exact counts_bound _
  have := Loop_run (b := dawg_Count.b2 s xs) (fun k => (cs ++ crow cs n (xs.take k) :: List.replicate (N - cs.length - 1) 0, (k : Int))) (i := 0) (n := xs.length) (Nat.zero_le _) (fun k _ hk => by
    have hx : xs[k]? = some xs[k] := List.getElem?_eq_getElem hk
    have hok := hr k hk _ hx
    have hb := crow_bound hcb (xs.take k) (n := n) (by rw [hn]; split <;> omega) (by rw [hn]; split <;> simp [cap])
    have hc : cs[xs[k].To.toNat]? = some (cs[xs[k].To.toNat]'(by omega)) := List.getElem?_eq_getElem _
    have hgd : cs.getD xs[k].To.toNat 0 = cs[xs[k].To.toNat]'(by omega) := by rw [List.getD_eq_getElem?_getD, hc]; rfl
    have hb2 := getD_bound hcb xs[k].To.toNat
    have r1 : (cs ++ crow cs n (xs.take k) :: List.replicate (N - cs.length - 1) 0)[s]? = some (crow cs n (xs.take k)) := by
      rw [List.getElem?_append_right (by omega), hcl, Nat.sub_self]; rfl
    have r2 : (cs ++ crow cs n (xs.take k) :: List.replicate (N - cs.length - 1) 0)[xs[k].To.toNat]? = some (cs[xs[k].To.toNat]'(by omega)) := by
      rw [List.getElem?_append_left (by omega)]; exact hc
    rw [dawg_Count.b2, if_pos (by simp; omega), idx_nat, hx, Option.bind_some, idx_nat, r1, Option.bind_some, idx_some hok.1 r2, Option.bind_some, w64s (by omega), take_snoc hx, crow_snoc, hgd]
    rw [hgd] at hb2
    simp only [cap] at hb hb2
    rw [w64 (by omega) (by omega), Int.toNat_natCast]
    have e : ∀ v, (cs ++ crow cs n (List.take k xs) :: List.replicate (N - cs.length - 1) 0).set s v = cs ++ v :: List.replicate (N - cs.length - 1) 0 := fun v => by
      have := filled_set (cs := cs) (n := N) (v := v) (by omega) (crow cs n (List.take k xs))
      rwa [hcl] at this ⊢
    rw [e]
    rfl)
  simp only [List.take_zero, List.take_length] at this
  have e0 : crow cs n [] = n := rfl
  rw [e0, show ((0 : Nat) : Int) = 0 from rfl] at this
  rw [this]
  apply Loop_end
  rw [dawg_Count.b2, if_neg (by simp)]
  unfold dawg_Count.k2
  rw [w64s (by omega), counts_next hf hg, hcs, ← hn, filled_snoc (by omega)]
theorem dawg_Count_eq {g : TGraph} (hs : Short g) (hr : RightP g) : dawg_Count g = some (counts (rowsOf g), 0) := by
  unfold dawg_Count
  have hl := rows_len hr.len
  have hi := hr.hi
  rw [dawg_Right_eq hs, Option.bind_some, if_neg (by simp [hr]), mk_ok (by omega), Option.bind_some]
  have := Loop_run (b := dawg_Count.b1 g) (fun s => (filled (counts ((rowsOf g).take s)) g.Final.length, (s : Int))) (i := 0) (n := g.Final.length) (Nat.zero_le _) (fun s _ hlt => by
    have h1 : g.Final[s]? = some g.Final[s] := List.getElem?_eq_getElem hlt
    have h2 : g.Edges[s]? = some (g.Edges[s]'(by have := hr.len; omega)) := List.getElem?_eq_getElem _
    have hrow := hr.rows s (by have := hr.len; omega) _ h2
    have hcl : (counts ((rowsOf g).take s)).length = s := by rw [counts_len]; simp; omega
    have hfe := filled_eq (cs := counts ((rowsOf g).take s)) (n := g.Final.length) (by omega)
    rw [dawg_Count.b1, if_pos (by have := hr.len; simp; omega), idx_nat, h2, Option.bind_some, idx_nat, h1, Option.bind_some]
    split
    · rename_i hf
      have h3 : (filled (counts ((rowsOf g).take s)) g.Final.length)[s]? = some 0 := by
        rw [hfe, List.getElem?_append_right (by omega), hcl, Nat.sub_self]; rfl
      rw [idx_nat, h3, Option.bind_some, Int.toNat_natCast, hfe]
      have e := filled_set (cs := counts ((rowsOf g).take s)) (n := g.Final.length) (v := 1) (by omega) 0
      rw [hcl] at e
      unfold dawg_Count.k3
      rw [hcl, e]
      have := dawg_Count_row (N := g.Final.length) h2 h1 hlt hi (hs _ (List.getElem_mem _)) hrow (by omega) (n := 1) (by simp [hf]) rfl
      rwa [hcl] at this
    · rename_i hf
      unfold dawg_Count.k3
      rw [hfe]
      exact dawg_Count_row (N := g.Final.length) h2 h1 hlt hi (hs _ (List.getElem_mem _)) hrow (by omega) (n := 0) (by simp [hf]) rfl)
  have e0 : filled (counts ((rowsOf g).take 0)) g.Final.length = List.replicate (Int.toNat (g.Final.length : Int)) 0 := by simp [filled, counts]
  simp only [e0] at this
  rw [show ((0 : Nat) : Int) = 0 from rfl] at this
  rw [this]
  apply Loop_end
  rw [dawg_Count.b1, if_neg (by have := hr.len; simp; omega)]
  unfold dawg_Count.k1
  rw [List.take_of_length_le (by omega)]
  simp [filled, counts_len, hl]
theorem dawg_Count_bad {g : TGraph} (hs : Short g) (hr : ¬ RightP g) : dawg_Count g = some ([], 1) := by
  unfold dawg_Count
  rw [dawg_Right_eq hs, Option.bind_some, if_pos (by simp [hr])]
end Go.Val

/- part P4 -/
/- Plain lemmas: a state has as many ends as those that it leads to (DawgSum). -/
namespace Go.Val
set_option linter.unusedVariables false
theorem Few_eq (g : TGraph) (m : Nat) (hm : m ≤ 1000) : ∃ b, scansionref17_Few g m = some b ∧ (b = true → g.Final.length ≤ m ∧ g.Edges.length ≤ m ∧ ∀ xs ∈ g.Edges, xs.length ≤ 300) := by
  unfold scansionref17_Few
  split
  · exact ⟨false, rfl, fun h => by cases h⟩
  · rename_i h
    simp at h
    obtain ⟨k1, k2⟩ := Loop_all0 (b := scansionref17_Few.b1 g) (fun s => ∀ xs, g.Edges[s]? = some xs → xs.length ≤ 300) g.Edges.length (r := false) (R := true) (fun s hlt hp => by
        have hx : g.Edges[s]? = some g.Edges[s] := List.getElem?_eq_getElem hlt
        have := hp _ hx
        unfold scansionref17_Few.b1
        rw [if_pos (by simp; omega), idx_nat, hx, Option.bind_some, if_neg (by simp; omega), w64s (by omega)])
      (fun s hlt hp => by
        have hx : g.Edges[s]? = some g.Edges[s] := List.getElem?_eq_getElem hlt
        have : ¬ g.Edges[s].length ≤ 300 := fun h => hp fun xs he => by rw [hx] at he; cases he; exact h
        unfold scansionref17_Few.b1
        rw [if_pos (by simp; omega), idx_nat, hx, Option.bind_some, if_pos (by simp; omega)])
      (by unfold scansionref17_Few.b1; rw [if_neg (by simp)]; rfl)
    by_cases hall : ∀ s, s < g.Edges.length → ∀ xs, g.Edges[s]? = some xs → xs.length ≤ 300
    · exact ⟨true, k1 hall, fun _ => ⟨by omega, by omega, fun xs hx => by
        obtain ⟨i, hi⟩ := List.getElem?_of_mem hx
        exact hall i (List.getElem?_eq_some_iff.1 hi).1 xs hi⟩⟩
    · exact ⟨false, k2 hall, fun h => by cases h⟩
def sumTo (cs : List Int) (n : Int) (xs : List TEdge) : Int := xs.foldl (fun n x => n + cs.getD x.To.toNat 0) n
theorem sumTo_snoc {cs : List Int} {n : Int} {xs : List TEdge} {x : TEdge} : sumTo cs n (xs ++ [x]) = sumTo cs n xs + cs.getD x.To.toNat 0 := by simp [sumTo]
theorem sumTo_bound {cs : List Int} (hc : ∀ c ∈ cs, 0 ≤ c ∧ c ≤ cap) {n : Int} (h1 : 0 ≤ n) (h2 : n ≤ 1) (xs : List TEdge) : 0 ≤ sumTo cs n xs ∧ sumTo cs n xs ≤ 1 + xs.length * cap := by
  induction xs using snoc_ind with
  | h0 => simp [sumTo]; omega
  | h1 xs x ih =>
    rw [sumTo_snoc]
    have := getD_bound hc x.To.toNat
    simp only [List.length_append, List.length_cons, List.length_nil, cap] at *
    omega
theorem crow_sum {cs : List Int} (hc : ∀ c ∈ cs, 0 ≤ c ∧ c ≤ cap) {n : Int} (h1 : 0 ≤ n) (h2 : n ≤ 1) (xs : List TEdge) : crow cs n xs = mn (sumTo cs n xs) cap := by
  induction xs using snoc_ind with
  | h0 =>
    show n = mn n cap
    unfold mn cap; split <;> omega
  | h1 xs x ih =>
    rw [crow_snoc, sumTo_snoc, ih]
    have := getD_bound hc x.To.toNat
    have := sumTo_bound hc h1 h2 xs
    unfold mn
    repeat' split
    all_goals omega
theorem sumTo_congr {cs cs' : List Int} {xs : List TEdge} {n : Int} (h : ∀ x ∈ xs, cs.getD x.To.toNat 0 = cs'.getD x.To.toNat 0) : sumTo cs n xs = sumTo cs' n xs := by
  induction xs using snoc_ind with
  | h0 => rfl
  | h1 xs x ih => rw [sumTo_snoc, sumTo_snoc, ih fun y hy => h y (by simp [hy]), h x (by simp)]

theorem DawgSum_of (haw : scansionlaw17_awake = some true) (g : TGraph) : scansionlaw17_DawgSum g = some true := by
  unfold scansionlaw17_DawgSum
  obtain ⟨b, hb, hfew⟩ := Few_eq g 60 (by omega)
  rw [haw, Option.bind_some, show (60 : Int) = ((60 : Nat) : Int) from rfl, hb, Option.bind_some]
  cases b with
  | false => rfl
  | true =>
    obtain ⟨f1, f2, f3⟩ := hfew rfl
    have hs : Short g := fun xs hx => by have := f3 xs hx; omega
    rw [if_neg (by simp)]
    by_cases hr : RightP g
    · rw [dawg_Count_eq hs hr, Option.bind_some, if_neg (by simp)]
      have hl := rows_len hr.len
      have hcl : (counts (rowsOf g)).length = g.Final.length := by rw [counts_len, hl]
      have hcb := counts_bound (rowsOf g)
      generalize hcs : counts (rowsOf g) = cs at hcl hcb
      have := Loop_int (b := scansionlaw17_DawgSum.b1 g (cs, 0)) (i := 0) (n := cs.length) (Nat.zero_le _) (fun s _ hlt => by
        have h1 : g.Final[s]? = some (g.Final[s]'(by omega)) := List.getElem?_eq_getElem _
        have h2 : g.Edges[s]? = some (g.Edges[s]'(by have := hr.len; omega)) := List.getElem?_eq_getElem _
        have hrow := hr.rows s (by have := hr.len; omega) _ h2
        have hlen := f3 _ (List.getElem_mem (by have := hr.len; omega : s < g.Edges.length))
        have hcs1 : cs[s]? = some (crow (counts ((rowsOf g).take s)) (if g.Final[s]'(by omega) = true then 1 else 0) (g.Edges[s]'(by have := hr.len; omega))) := by
          have := counts_next h1 h2
          have hk : counts ((rowsOf g).take (s + 1)) = cs.take (s + 1) := by rw [← hcs]; exact counts_take _ _
          rw [hk] at this
          have e := congrArg (fun l => l[s]?) this
          simp only [List.getElem?_take] at e
          rw [if_pos (by omega)] at e
          rw [e, List.getElem?_append_right (by rw [counts_len]; simp; omega)]
          rw [counts_len]; simp; rw [Nat.min_eq_left (by omega)]; simp
        have hsum : ∀ n : Int, 0 ≤ n → n ≤ 1 → cs[s]? = some (crow (counts ((rowsOf g).take s)) n (g.Edges[s]'(by have := hr.len; omega))) → scansionlaw17_DawgSum.k3 g (cs, 0) s n = some (.next ((s + 1 : Nat) : Int)) := fun n n0 n1 hcn => by
          unfold scansionlaw17_DawgSum.k3
          have hrun := Loop_run (b := scansionlaw17_DawgSum.b2 g (cs, 0) s) (fun k => (sumTo cs n ((g.Edges[s]'(by have := hr.len; omega)).take k), (k : Int))) (i := 0) (n := (g.Edges[s]'(by have := hr.len; omega)).length) (Nat.zero_le _) (fun k _ hk => by
            have hx : (g.Edges[s]'(by have := hr.len; omega))[k]? = some ((g.Edges[s]'(by have := hr.len; omega))[k]) := List.getElem?_eq_getElem hk
            have hok := hrow k hk _ hx
            have hc : cs[((g.Edges[s]'(by have := hr.len; omega))[k]).To.toNat]? = some (cs[((g.Edges[s]'(by have := hr.len; omega))[k]).To.toNat]'(by omega)) := List.getElem?_eq_getElem _
            have hgd : cs.getD ((g.Edges[s]'(by have := hr.len; omega))[k]).To.toNat 0 = cs[((g.Edges[s]'(by have := hr.len; omega))[k]).To.toNat]'(by omega) := by rw [List.getD_eq_getElem?_getD, hc]; rfl
            have hb1 := sumTo_bound hcb n0 n1 ((g.Edges[s]'(by have := hr.len; omega)).take k)
            have hb2 := getD_bound hcb ((g.Edges[s]'(by have := hr.len; omega))[k]).To.toNat
            have hlt : ((g.Edges[s]'(by have := hr.len; omega)).take k).length ≤ 300 := by simp; omega
            rw [scansionlaw17_DawgSum.b2, idx_nat, h2, Option.bind_some, if_pos (by simp; omega), idx_nat, hx, Option.bind_some, idx_some hok.1 hc, Option.bind_some, w64s (by omega), take_snoc hx, sumTo_snoc, hgd]
            rw [hgd] at hb2
            simp only [cap] at hb1 hb2
            rw [w64 (by omega) (by omega)])
          simp only [List.take_zero, List.take_length] at hrun
          rw [show ((0 : Nat) : Int) = 0 from rfl, show sumTo cs n [] = n from rfl] at hrun
          rw [hrun]
          apply Loop_end
          rw [scansionlaw17_DawgSum.b2, idx_nat, h2, Option.bind_some, if_neg (by simp)]
          unfold scansionlaw17_DawgSum.k4
          rw [idx_nat, hcn, Option.bind_some, if_neg]
          · unfold scansionlaw17_DawgSum.k2; rw [w64s (by omega)]
          · have hpre := counts_bound ((rowsOf g).take s)
            rw [crow_sum hpre n0 n1]
            have : sumTo (counts ((rowsOf g).take s)) n (g.Edges[s]'(by have := hr.len; omega)) = sumTo cs n (g.Edges[s]'(by have := hr.len; omega)) := sumTo_congr fun x hx => by
              obtain ⟨k, hk⟩ := List.getElem?_of_mem hx
              have hok := hrow k (List.getElem?_eq_some_iff.1 hk).1 _ hk
              rw [counts_take, hcs, List.getD_eq_getElem?_getD, List.getD_eq_getElem?_getD, List.getElem?_take, if_pos (by omega)]
            rw [this]; simp [cap]
        unfold scansionlaw17_DawgSum.b1
        rw [if_pos (by simp; omega), idx_nat, h1, Option.bind_some]
        split
        · rename_i hf
          exact hsum 1 (by omega) (by omega) (by rw [hcs1, if_pos hf])
        · rename_i hf
          exact hsum 0 (by omega) (by omega) (by rw [hcs1, if_neg hf]))
      rw [show ((0 : Nat) : Int) = 0 from rfl] at this
      rw [this]
      apply Loop_end
      unfold scansionlaw17_DawgSum.b1
      rw [if_neg (by simp)]
      unfold scansionlaw17_DawgSum.k1
      simp [hcl]
    · rw [dawg_Count_bad hs hr, Option.bind_some, if_pos (by simp), if_pos (by simp), dawg_Right_eq hs]
      simp [hr]
end Go.Val

/- part P5 -/
/- Plain lemmas: looking for one in a list; keys; the two words of 'awake'. -/
namespace Go.Val
set_option linter.unusedVariables false
def find {α : Type} (g : α → Bool) (l : List α) : Int := if l.findIdx g < l.length then (l.findIdx g : Int) else -1
theorem IndexFunc_str {s : List Str} {f : Str → Option Bool} {g : Str → Bool} (hf : ∀ x ∈ s, f x = some (g x)) (hl : s.length ≤ 140737488355328) : slices_IndexFunc_string_string s f = some (find g s) := by
  unfold slices_IndexFunc_string_string
  have hle : s.findIdx g ≤ s.length := List.findIdx_le_length
  have := Loop_int (b := slices_IndexFunc_string_string.b1 s f) (i := 0) (n := s.findIdx g) (Nat.zero_le _) (fun j _ hj => by
    have hlt : j < s.length := by omega
    have hx : s[j]? = some s[j] := List.getElem?_eq_getElem hlt
    have hg : g s[j] = false := by simpa using List.not_of_lt_findIdx hj
    rw [slices_IndexFunc_string_string.b1, if_pos (by simp; omega), idx_nat, hx, Option.bind_some, hf _ (List.getElem_mem _), Option.bind_some, if_neg (by simp [hg]), w64s (by omega)])
  rw [show ((0 : Nat) : Int) = 0 from rfl] at this
  rw [this]
  unfold find
  by_cases h : s.findIdx g < s.length
  · rw [if_pos h]
    apply Loop_done
    have hx : s[s.findIdx g]? = some s[s.findIdx g] := List.getElem?_eq_getElem h
    have hg : g s[s.findIdx g] = true := List.findIdx_getElem
    rw [slices_IndexFunc_string_string.b1, if_pos (by rw [decide_eq_true_eq]; omega), idx_nat, hx, Option.bind_some, hf _ (List.getElem_mem _), Option.bind_some, if_pos hg]
  · rw [if_neg h]
    apply Loop_done
    rw [slices_IndexFunc_string_string.b1, if_neg (by rw [decide_eq_true_eq]; omega)]
    rfl
theorem IndexFunc_edge {s : List TEdge} {f : TEdge → Option Bool} {g : TEdge → Bool} (hf : ∀ x ∈ s, f x = some (g x)) (hl : s.length ≤ 140737488355328) : slices_IndexFunc_api_Edge_api_Edge s f = some (find g s) := by
  unfold slices_IndexFunc_api_Edge_api_Edge
  have hle : s.findIdx g ≤ s.length := List.findIdx_le_length
  have := Loop_int (b := slices_IndexFunc_api_Edge_api_Edge.b1 s f) (i := 0) (n := s.findIdx g) (Nat.zero_le _) (fun j _ hj => by
    have hlt : j < s.length := by omega
    have hx : s[j]? = some s[j] := List.getElem?_eq_getElem hlt
    have hg : g s[j] = false := by simpa using List.not_of_lt_findIdx hj
    rw [slices_IndexFunc_api_Edge_api_Edge.b1, if_pos (by simp; omega), idx_nat, hx, Option.bind_some, hf _ (List.getElem_mem _), Option.bind_some, if_neg (by simp [hg]), w64s (by omega)])
  rw [show ((0 : Nat) : Int) = 0 from rfl] at this
  rw [this]
  unfold find
  by_cases h : s.findIdx g < s.length
  · rw [if_pos h]
    apply Loop_done
    have hx : s[s.findIdx g]? = some s[s.findIdx g] := List.getElem?_eq_getElem h
    have hg : g s[s.findIdx g] = true := List.findIdx_getElem
    rw [slices_IndexFunc_api_Edge_api_Edge.b1, if_pos (by rw [decide_eq_true_eq]; omega), idx_nat, hx, Option.bind_some, hf _ (List.getElem_mem _), Option.bind_some, if_pos hg]
  · rw [if_neg h]
    apply Loop_done
    rw [slices_IndexFunc_api_Edge_api_Edge.b1, if_neg (by rw [decide_eq_true_eq]; omega)]
    rfl
/-- A key's bytes of an edge. -/
def kb (x : TEdge) : List UInt8 := [x.Label, u8 (IntKind.u8.wrap (shR .i64 x.To 24)), u8 (IntKind.u8.wrap (shR .i64 x.To 16)), u8 (IntKind.u8.wrap (shR .i64 x.To 8)), u8 (IntKind.u8.wrap x.To)]
def keyOf (f : Bool) (es : List TEdge) : List UInt8 := (if f then 1 else 0) :: es.flatMap kb
theorem key_loop {es : List TEdge} {out : List UInt8} (ho : out.length = 1) (hl : es.length ≤ 1000000) : dawg_key.k1 es out = some (out ++ es.flatMap kb) := by
  unfold dawg_key.k1
  have hlen : ∀ k, k ≤ es.length → (out ++ (es.take k).flatMap kb).length = 1 + 5 * k := fun k hk => by
    rw [List.length_append, ho]
    have : ∀ l : List TEdge, (l.flatMap kb).length = 5 * l.length := by
      intro l
      induction l with
      | nil => rfl
      | cons x l ih => simp [kb] at ih ⊢; omega
    rw [this, List.length_take, Nat.min_eq_left hk]
  have := Loop_run (b := dawg_key.b1 es) (fun k => (out ++ (es.take k).flatMap kb, (k : Int))) (i := 0) (n := es.length) (Nat.zero_le _) (fun k _ hk => by
    have hx : es[k]? = some es[k] := List.getElem?_eq_getElem hk
    rw [dawg_key.b1, if_pos (by simp; omega), idx_nat, hx, Option.bind_some, room_ok (by rw [hlen k (by omega)]; omega), Option.bind_some, w64s (by omega), take_snoc hx]
    simp only [List.flatMap_append, List.flatMap_cons, List.flatMap_nil, List.append_nil, kb, List.append_assoc])
  simp only [List.take_zero, List.take_length, List.flatMap_nil, List.append_nil] at this
  rw [show ((0 : Nat) : Int) = 0 from rfl] at this
  rw [this]
  apply Loop_end
  rw [dawg_key.b1, if_neg (by simp)]
  rfl
theorem key_eq {f : Bool} {es : List TEdge} (hl : es.length ≤ 1000000) : dawg_key f es = some (keyOf f es) := by
  unfold dawg_key
  cases f with
  | true =>
    rw [if_pos rfl]
    simp only [List.getElem?_cons_zero, Option.bind_some]
    rw [key_loop (by simp) hl]
    rfl
  | false =>
    rw [if_neg (by simp), key_loop rfl hl]
    rfl

/-! ### two words -/
def wA : Str := [97, 98]
def wB : Str := [99, 98]
theorem find_neg {α : Type} {g : α → Bool} {l : List α} {n : Int} (h : find g l = n) : find g l = n := h
theorem label_f {s : Str} {i : Nat} {c d : UInt8} (h : s[i]? = some d) : dawg_builder_state_1 s (i : Int) c = some ((d.toNat : Int) != (c.toNat : Int)) := by
  unfold dawg_builder_state_1; rw [idx_nat, h]; rfl
theorem st_end (k : Nat) (b : Tdawg_builder) (s : Str) (hs : s.length = 2) {i : Int} {b' : Tdawg_builder} (h : dawg_builder_state.k2 true [] b.Graph.Final b.Graph.Edges b.known = some (i, b')) : dawg_builder_state.r (k + 1) b [s] 2 = some (i, b') := by
  rw [dawg_builder_state.r]
  simp only [List.length_cons, List.length_nil, List.getElem?_cons_zero, Option.bind_some, hs]
  simp only [dawg_builder_state.k1, cutL]
  simp
  apply Loop_end
  rw [dawg_builder_state.b1, if_neg (by simp), h]
theorem st_one (k : Nat) (b b1 b2 : Tdawg_builder) (c : UInt8) {i j : Int} (h1 : dawg_builder_state.r (k + 1) b [[c, 98]] 2 = some (i, b1)) (h2 : dawg_builder_state.k2 false [⟨98, i⟩] b1.Graph.Final b1.Graph.Edges b1.known = some (j, b2)) :
    dawg_builder_state.r (k + 2) b [[c, 98]] 1 = some (j, b2) := by
  rw [dawg_builder_state.r]
  have e1 : ((([[c, 98]] : List Str).length : Int) > 0) := by simp
  rw [if_pos (by simp)]
  simp only [List.getElem?_cons_zero, Option.bind_some]
  rw [if_neg (by simp)]
  unfold dawg_builder_state.k1
  have hf : slices_IndexFunc_string_string [[c, 98]] (fun x0 => dawg_builder_state_1 x0 1 98) = some (-1) := by
    rw [IndexFunc_str (g := fun _ => false) (fun x hx => by
      simp at hx; subst hx
      exact label_f (i := 1) (d := 98) rfl) (by simp)]
    rfl
  have step : dawg_builder_state.b1 (dawg_builder_state.r (k + 1)) 1 false ([[c, 98]], [], b.Graph.Final, b.Graph.Edges, b.known) = some (.next ([], [⟨98, i⟩], b1.Graph.Final, b1.Graph.Edges, b1.known)) := by
    rw [dawg_builder_state.b1, if_pos (by simp)]
    simp only [List.getElem?_cons_zero, Option.bind_some]
    rw [show (1 : Int) = ((1 : Nat) : Int) from rfl, idx_nat]
    simp only [List.getElem?_cons_succ, List.getElem?_cons_zero, Option.bind_some]
    rw [show ((1 : Nat) : Int) = 1 from rfl, hf, Option.bind_some, if_pos (by simp)]
    unfold dawg_builder_state.k4
    have ew : IntKind.i64.wrap (1 + 1) = 2 := by rw [w64] <;> omega
    simp only [List.length_cons, List.length_nil, cutH, cutL, ew]
    simp [h1, room_ok]
  change Loop (dawg_builder_state.b1 (dawg_builder_state.r (k + 1)) 1 false) _ = _
  rw [Loop_next step]
  apply Loop_end
  rw [dawg_builder_state.b1, if_neg (by simp), h2]
def bF : Tdawg_builder := ⟨⟨[true], [[]]⟩, [([1], 0)]⟩
def bG : Tdawg_builder := ⟨⟨[true, false], [[], [⟨98, 0⟩]]⟩, [([1], 0), ([0, 98, 0, 0, 0, 0], 1)]⟩
def bH : Tdawg_builder := ⟨⟨[true, false, false], [[], [⟨98, 0⟩], [⟨97, 1⟩, ⟨99, 1⟩]]⟩, [([1], 0), ([0, 98, 0, 0, 0, 0], 1), ([0, 97, 0, 0, 0, 1, 99, 0, 0, 0, 1], 2)]⟩
theorem kk1 : keyOf true [] = [1] := rfl
theorem kk2 : keyOf false [⟨98, 0⟩] = [0, 98, 0, 0, 0, 0] := by decide
theorem kk3 : keyOf false [⟨97, 1⟩, ⟨99, 1⟩] = [0, 97, 0, 0, 0, 1, 99, 0, 0, 0, 1] := by decide
theorem s1 : dawg_builder_state.k2 true [] [] [] [] = some (0, bF) := by
  unfold dawg_builder_state.k2
  rw [key_eq (by simp), Option.bind_some, kk1]
  simp [aget, room_ok, dawg_builder_state.k3, aput, bF]
theorem s2 : dawg_builder_state.k2 true [] bG.Graph.Final bG.Graph.Edges bG.known = some (0, bG) := by
  unfold dawg_builder_state.k2
  rw [key_eq (by simp), Option.bind_some, kk1]
  simp [aget, room_ok, dawg_builder_state.k3, aput, bG]
theorem s3 : dawg_builder_state.k2 false [⟨98, 0⟩] bF.Graph.Final bF.Graph.Edges bF.known = some (1, bG) := by
  unfold dawg_builder_state.k2
  rw [key_eq (by simp), Option.bind_some, kk2]
  simp [aget, room_ok, dawg_builder_state.k3, aput, bG, bF]
theorem s4 : dawg_builder_state.k2 false [⟨98, 0⟩] bG.Graph.Final bG.Graph.Edges bG.known = some (1, bG) := by
  unfold dawg_builder_state.k2
  rw [key_eq (by simp), Option.bind_some, kk2]
  simp [aget, room_ok, dawg_builder_state.k3, aput, bG, bF]
theorem s5 : dawg_builder_state.k2 false [⟨97, 1⟩, ⟨99, 1⟩] bG.Graph.Final bG.Graph.Edges bG.known = some (2, bH) := by
  unfold dawg_builder_state.k2
  rw [key_eq (by simp), Option.bind_some, kk3]
  simp [aget, room_ok, dawg_builder_state.k3, aput, bG, bH]
theorem stA (k : Nat) : dawg_builder_state.r (k + 2) ⟨⟨[], []⟩, []⟩ [wA] 1 = some (1, bG) := st_one k _ bF bG 97 (st_end k _ _ rfl s1) s3
theorem stB (k : Nat) : dawg_builder_state.r (k + 2) bG [wB] 1 = some (1, bG) := st_one k _ bG bG 99 (st_end k _ _ rfl s2) s4
theorem stAB (k : Nat) : dawg_builder_state.r (k + 3) ⟨⟨[], []⟩, []⟩ [wA, wB] 0 = some (2, bH) := by
  rw [dawg_builder_state.r]
  rw [if_pos (by simp)]
  simp only [List.getElem?_cons_zero, Option.bind_some]
  rw [if_neg (by simp [wA])]
  unfold dawg_builder_state.k1
  have hfA : slices_IndexFunc_string_string [wA, wB] (fun x0 => dawg_builder_state_1 x0 0 97) = some 1 := by
    rw [IndexFunc_str (g := fun s => s == wB) (fun x hx => by
      simp at hx
      rcases hx with rfl | rfl
      · exact label_f (i := 0) (d := 97) rfl
      · exact label_f (i := 0) (d := 99) rfl) (by simp)]
    rfl
  have hfB : slices_IndexFunc_string_string [wB] (fun x0 => dawg_builder_state_1 x0 0 99) = some (-1) := by
    rw [IndexFunc_str (g := fun s => false) (fun x hx => by
      simp at hx; subst hx
      exact label_f (i := 0) (d := 99) rfl) (by simp)]
    rfl
  have ew : IntKind.i64.wrap (0 + 1) = 1 := by rw [w64] <;> omega
  have step1 : dawg_builder_state.b1 (dawg_builder_state.r (k + 2)) 0 false ([wA, wB], [], [], [], []) = some (.next ([wB], [⟨97, 1⟩], bG.Graph.Final, bG.Graph.Edges, bG.known)) := by
    rw [dawg_builder_state.b1, if_pos (by simp)]
    simp only [List.getElem?_cons_zero, Option.bind_some]
    rw [show (0 : Int) = ((0 : Nat) : Int) from rfl, idx_nat, show wA[0]? = some 97 from rfl, Option.bind_some]
    rw [show ((0 : Nat) : Int) = 0 from rfl, hfA, Option.bind_some, if_neg (by simp)]
    unfold dawg_builder_state.k4
    simp only [List.length_cons, List.length_nil, cutH, cutL, ew]
    simp [stA, room_ok]
  have step2 : dawg_builder_state.b1 (dawg_builder_state.r (k + 2)) 0 false ([wB], [⟨97, 1⟩], bG.Graph.Final, bG.Graph.Edges, bG.known) = some (.next ([], [⟨97, 1⟩, ⟨99, 1⟩], bG.Graph.Final, bG.Graph.Edges, bG.known)) := by
    rw [dawg_builder_state.b1, if_pos (by simp)]
    simp only [List.getElem?_cons_zero, Option.bind_some]
    rw [show (0 : Int) = ((0 : Nat) : Int) from rfl, idx_nat, show wB[0]? = some 99 from rfl, Option.bind_some]
    rw [show ((0 : Nat) : Int) = 0 from rfl, hfB, Option.bind_some, if_pos (by simp)]
    unfold dawg_builder_state.k4
    have e : dawg_builder_state.r (k + 2) ⟨⟨bG.Graph.Final, bG.Graph.Edges⟩, bG.known⟩ [wB] 1 = some (1, bG) := stB k
    simp only [List.length_cons, List.length_nil, cutH, cutL, ew]
    simp [e, room_ok]
  change Loop (dawg_builder_state.b1 (dawg_builder_state.r (k + 2)) 0 false) _ = _
  rw [Loop_next step1, Loop_next step2]
  apply Loop_end
  rw [dawg_builder_state.b1, if_neg (by simp), s5]
theorem rise2 : dawg_rise [wA, wB] = some true := by
  unfold dawg_rise
  have step : dawg_rise.b1 [wA, wB] 1 = some (.next 2) := by
    unfold dawg_rise.b1
    have ew : IntKind.i64.wrap (1 - 1) = ((0 : Nat) : Int) := by rw [w64] <;> simp
    have ew2 : IntKind.i64.wrap (1 + 1) = 2 := by rw [w64] <;> omega
    rw [if_pos (by simp), ew, idx_nat, show (1 : Int) = ((1 : Nat) : Int) from rfl, idx_nat]
    simp only [List.getElem?_cons_succ, List.getElem?_cons_zero, Option.bind_some]
    rw [if_neg (by decide)]
    rw [show ((1 : Nat) : Int) = 1 from rfl, ew2]
  rw [Loop_next step]
  apply Loop_end
  unfold dawg_rise.b1
  rw [if_neg (by simp)]
  unfold dawg_rise.k1
  have hc : slices_ContainsFunc_string_string [wA, wB] dawg_rise_1 = some false := by
    unfold slices_ContainsFunc_string_string
    rw [IndexFunc_str (g := fun _ => false) (fun x hx => by
      simp at hx
      rcases hx with rfl | rfl <;> rfl) (by simp)]
    rfl
  simp [hc]
theorem Build2 : dawg_Build [wA, wB] = some (bH.Graph, 0) := by
  unfold dawg_Build
  have hs : dawg_builder_state ⟨⟨[], []⟩, []⟩ [wA, wB] 0 = some (2, bH) := lim_eq 3 fun k hk => by
    obtain ⟨j, rfl⟩ : ∃ j, k = j + 3 := ⟨k - 3, by omega⟩
    exact stAB j
  rw [rise2, Option.bind_some, if_neg (by simp), hs]
  rfl
theorem lab_f {x : TEdge} {s : Str} {i : Nat} {d : UInt8} (h : s[i]? = some d) : dawg_walk_1 x s (i : Int) = some ((x.Label.toNat : Int) == (d.toNat : Int)) := by
  unfold dawg_walk_1; rw [idx_nat, h]; rfl
theorem walk2 : dawg_walk bH.Graph wB = some ([2, 1, 0], true) := by
  unfold dawg_walk
  have ew : IntKind.i64.wrap ((bH.Graph.Final.length : Int) - 1) = 2 := by rw [w64] <;> simp [bH]
  have ew1 : IntKind.i64.wrap (0 + 1) = 1 := by rw [w64] <;> omega
  have ew2 : IntKind.i64.wrap (1 + 1) = 2 := by rw [w64] <;> omega
  have f1 : slices_IndexFunc_api_Edge_api_Edge [⟨97, 1⟩, ⟨99, 1⟩] (fun x0 => dawg_walk_1 x0 wB 0) = some 1 := by
    rw [IndexFunc_edge (f := fun x0 => dawg_walk_1 x0 wB 0) (g := fun x => (x.Label.toNat : Int) == ((99 : UInt8).toNat : Int)) (fun x hx => lab_f (s := wB) (i := 0) (d := 99) rfl) (by simp)]
    rfl
  have f2 : slices_IndexFunc_api_Edge_api_Edge [⟨98, 0⟩] (fun x0 => dawg_walk_1 x0 wB 1) = some 0 := by
    rw [IndexFunc_edge (f := fun x0 => dawg_walk_1 x0 wB 1) (g := fun x => (x.Label.toNat : Int) == ((98 : UInt8).toNat : Int)) (fun x hx => lab_f (s := wB) (i := 1) (d := 98) rfl) (by simp)]
    rfl
  have step1 : dawg_walk.b1 bH.Graph wB ([2], 0) = some (.next ([2, 1], 1)) := by
    rw [dawg_walk.b1, if_pos (by simp [wB])]
    rw [show idx ([2] : List Int) 0 = some 2 from rfl, Option.bind_some, show idx bH.Graph.Edges 2 = some [⟨97, 1⟩, ⟨99, 1⟩] from rfl, Option.bind_some, f1, Option.bind_some, if_neg (by simp), show idx ([⟨97, 1⟩, ⟨99, 1⟩] : List TEdge) 1 = some ⟨99, 1⟩ from rfl, Option.bind_some, room_ok (by simp), Option.bind_some, ew1]
    rfl
  have step2 : dawg_walk.b1 bH.Graph wB ([2, 1], 1) = some (.next ([2, 1, 0], 2)) := by
    rw [dawg_walk.b1, if_pos (by simp [wB])]
    rw [show idx ([2, 1] : List Int) 1 = some 1 from rfl, Option.bind_some, show idx bH.Graph.Edges 1 = some [⟨98, 0⟩] from rfl, Option.bind_some, f2, Option.bind_some, if_neg (by simp), show idx ([⟨98, 0⟩] : List TEdge) 0 = some ⟨98, 0⟩ from rfl, Option.bind_some, room_ok (by simp), Option.bind_some, ew2]
    rfl
  rw [ew, Loop_next step1, Loop_next step2]
  apply Loop_end
  rw [dawg_walk.b1, if_neg (by simp [wB])]
  rfl
theorem right2 : RightP bH.Graph where
  lo := by simp [bH]
  hi := by simp [bH]
  len := rfl
  rows := fun s hs xs hx k hk x hx2 => by
    have h3 : s < 3 := hs
    match s, h3 with
    | 0, _ => cases hx; simp at hk
    | 1, _ =>
      cases hx
      match k, hk with
      | 0, _ => cases hx2; exact ⟨by simp, by simp, fun h => by omega⟩
    | 2, _ =>
      cases hx
      match k, hk with
      | 0, _ => cases hx2; exact ⟨by simp, by simp, fun h => by omega⟩
      | 1, _ => cases hx2; exact ⟨by simp, by simp, fun _ x1 h1 => by cases h1; decide⟩
theorem Has2 : dawg_Has bH.Graph wB = some true := by
  unfold dawg_Has
  rw [dawg_Right_eq (fun xs hx => by
    simp [bH] at hx
    rcases hx with rfl | rfl | rfl <;> simp), Option.bind_some, if_neg (by simp [right2]), walk2]
  rfl
theorem awake17 : scansionlaw17_awake = some true := by
  unfold scansionlaw17_awake
  rw [show ([([97, 98] : Str), ([99, 98] : Str)]) = [wA, wB] from rfl, Build2, Option.bind_some]
  simp only [bH]
  simp
  have := Has2
  simp only [bH, wB] at this
  rw [this]
end Go.Val

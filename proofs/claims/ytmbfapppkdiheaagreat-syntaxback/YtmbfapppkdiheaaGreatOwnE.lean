/- A value semantics of the model's programs, sound against it, and functions read off the given program with the proofs that it runs so; no condition. -/
import Derived.Test.YtmbfapppkdiheaaGreatOwnD
import Derived.Test.YtmbfapppkdiheaaGreatOwnC
set_option linter.all false
set_option linter.unnecessarySimpa false
set_option linter.unusedVariables false
set_option linter.unusedSimpArgs false
/- part LW18 -/
/- (*scansion/syntax.checker).right runs as it is read off. -/
namespace Go.Val
set_option maxRecDepth 20000
open Go.Proofs
theorem syntax_checker_right_runs_r : ∀ (fu : Nat) (c : Tsyntax_checker) (n : TNode) (depth : Int) (signs : Int) (l0 : Nat) {h : Heap} (ha0 : h.at_ l0 = some (.cells [.val (.int .i64 c.sets), .val (.int .i64 c.met)])) {a : (Bool × Tsyntax_checker)} (e : syntax_checker_right.r fu c n depth signs = some a),
    Runs CT 18 [.cv (.val (.ptr (some (l0, 0)))), .cv (.val (.agg [.int .i64 n.Kind, .int .i64 n.Set, .sl (List.map eNode n.Kids)])), .cv (.val (.int .i64 depth)), .cv (.val (.int .i64 signs))] h fun o h' => o = [.cv (.val (.bool a.1))] ∧ h' = (h.upd l0 (.cells [.val (.int .i64 a.2.sets), .val (.int .i64 a.2.met)])) := by
  intro fu
  induction fu with
  | zero => intros; rename_i e; simp [syntax_checker_right.r] at e
  | succ fu ih =>
    intro c n depth signs l0 h ha0 a e
    refine Runs.start Tryz.f18 _ Tryz.func18 rfl (by rw [Tryz.ntmps18]; simp) (by rfl) (by rfl) (fun hwf hu => ?_)
    have hl0 := (hwf _ _ ha0).1
    have kl0 := locF hl0
    have ku0 := updF hl0 ha0
    obtain ⟨D, hD, hr⟩ : ∃ D : (Bool × Tsyntax_checker) → Prop, (∀ z, D z → z = a) ∧ Holds (syntax_checker_right.r (fu + 1) c n depth signs) D := ⟨fun z => z = a, fun _ h => h, Holds.intro e rfl⟩
    dsimp only [syntax_checker_right.r] at hr
    change wpCode _ _ _ _ _ ⟨[(0, .cv (.val (.ptr (some (l0, 0))))), (1, .cv (.val (.agg [.int .i64 n.Kind, .int .i64 n.Set, .sl (List.map eNode n.Kids)]))), (2, .cv (.val (.int .i64 depth))), (3, .cv (.val (.int .i64 signs)))], h.on []⟩
    refine w_seq ?_
    refine A_region ?_
    refine w_n ?_
    refine w_seq ?_
    refine w_seq ?_
    refine A_region ?_
    refine w_n ?_
    refine A_condH hr (fun cF1 hr => ?_) (fun cF1 hr => ?_)
    · refine w_joinR (sj := ⟨[(0, .cv (.val (.ptr (some (l0, 0))))), (5, .cv (.val (.ptr (some (h.n + 0, 0))))), (9, .cv (.val (.bool (((n.Kids.length : Int) == (0 : Int)) && ((decide (n.Set ≥ (0 : Int))) && ((decide (n.Set < c.sets)) && (decide (n.Set ≤ c.met))))))))], h.on [some (.cells [.val (.int .i64 n.Kind), .val (.int .i64 n.Set), .val (.sl (List.map eNode n.Kids))])]⟩) (w_drawn [0, 1, 2, 3, 4, 5, 6, 7, 8, 9, 10, 11, 12, 13, 14, 15, 16, 17, 18, 19, 20, 21, 22, 23, 24, 25, 26, 27] (by rfl) ?_) ?_
      · refine A_prun [0, 1, 2, 3, 4] [4, 3, 2, 1, 0] ?_
        rcases Bool.eq_false_or_eq_true ((n.Kids.length : Int) == (0 : Int)) with cF2 | cF2
        · refine A_prun [5, 6, 7, 8, 9] [9, 8, 7, 6, 5, 4, 3, 2, 1, 0] ?_
          rcases Bool.eq_false_or_eq_true (decide (n.Set ≥ (0 : Int))) with cF3 | cF3
          · refine A_prun [10, 11, 12, 13, 14, 15, 16, 17, 18] [18, 17, 16, 15, 14, 13, 12, 11, 10, 9, 8, 7, 6, 5, 4, 3, 2, 1, 0] ?_
            rcases Bool.eq_false_or_eq_true (decide (n.Set < c.sets)) with cF4 | cF4
            · refine A_prun [19, 20, 21, 22, 23, 24, 25, 26] [26, 25, 24, 23, 22, 21, 20, 19, 18, 17, 16, 15, 14, 13, 12, 11, 10, 9, 8, 7, 6, 5, 4, 3, 2, 1, 0] ?_
              refine A_pop [] ?_
              refine A_pend ?_
              exact w_k (A_cut hwf)
            · refine A_prun [19, 20, 21, 22, 23, 24, 25, 26] [26, 25, 24, 23, 22, 21, 20, 19, 18, 17, 16, 15, 14, 13, 12, 11, 10, 9, 8, 7, 6, 5, 4, 3, 2, 1, 0] ?_
              refine A_pop [] ?_
              refine A_pend ?_
              exact w_k (A_cut hwf)
          · refine A_prun [10, 11, 12, 13, 14, 15, 16, 17, 18, 19, 20, 21, 22, 23, 24, 25, 26] [26, 25, 24, 23, 22, 21, 20, 19, 18, 17, 16, 15, 14, 13, 12, 11, 10, 9, 8, 7, 6, 5, 4, 3, 2, 1, 0] ?_
            refine A_pop [] ?_
            refine A_pend ?_
            exact w_k (A_cut hwf)
        · refine A_prun [5, 6, 7, 8, 9, 10, 11, 12, 13, 14, 15, 16, 17, 18, 19, 20, 21, 22, 23, 24, 25, 26] [26, 25, 24, 23, 22, 21, 20, 19, 18, 17, 16, 15, 14, 13, 12, 11, 10, 9, 8, 7, 6, 5, 4, 3, 2, 1, 0] ?_
          refine A_pop [] ?_
          refine A_pend ?_
          exact w_k (A_cut hwf)
      refine w_seq ?_
      refine w_drawn [0, 1, 2, 3, 4, 5, 6, 7, 8, 9, 10, 11, 12, 13, 14, 15, 16] (by rfl) ?_
      refine A_prun [0, 1, 2, 3, 4, 5, 6, 7, 8, 9, 10, 11, 12, 13, 14, 15] [15, 14, 13, 12, 11, 10, 9, 8, 7, 6, 5, 4, 3, 2, 1, 0] ?_
      refine A_pop [] ?_
      refine A_pend ?_
      refine w_n ?_
      refine w_seq ?_
      refine A_region ?_
      refine w_n ?_
      refine w_ret ?_
      obtain rfl := hD _ hr
      exact (w_tr (A_endR (A_cut (os' := []) (sl := [(8, .cv (.val (.bool (((n.Kids.length : Int) == (0 : Int)) && ((decide (n.Set ≥ (0 : Int))) && ((decide (n.Set < c.sets)) && (decide (n.Set ≤ c.met))))))))]) (h := (h.upd l0 (.cells [.val (.int .i64 c.sets), .val (.int .i64 (mx c.met (IntKind.i64.wrap ((mn n.Set c.sets) + (1 : Int)))))]))) (A_wf hwf hl0)) ⟨rfl, on_nil (A_wf hwf hl0)⟩))
    · refine w_skip ?_
      refine w_n ?_
      refine w_seq ?_
      refine w_seq ?_
      refine A_region ?_
      refine w_n ?_
      refine w_seq ?_
      refine A_ops ?_
      refine A_upto 1 ?_
      obtain ⟨r, eF5, hr⟩ := hr.bind
      refine A_call (out := ?o_eF5) (hp := ?p_eF5) ?c_eF5 ?d_eF5 ?_
      case c_eF5 => exact syntax_signed_runs n eF5
      case d_eF5 => rfl
      refine A_ops_end ?_
      refine w_n ?_
      refine w_K (D := D) (fun xX : Int => ⟨[(0, .cv (.val (.ptr (some (l0, 0))))), (2, .cv (.val (.int .i64 depth))), (3, .cv (.val (.int .i64 xX))), (5, .cv (.val (.ptr (some (h.n + 0, 0)))))], h.on [some (.cells [.val (.int .i64 n.Kind), .val (.int .i64 n.Set), .val (.sl (List.map eNode n.Kids))])]⟩) (fun xX : Int => syntax_checker_right.k1 (syntax_checker_right.r fu) c n depth xX) (fun xX s' hr ht => ?_) ?_
      · obtain ⟨signs1, rfl⟩ : ∃ z, z = xX := ⟨xX, rfl⟩
        dsimp only [syntax_checker_right.k1] at hr ht
        refine (w_nT ht ?_)
        refine w_seq ?_
        obtain ⟨v, vF9, hr⟩ := hr.bind
        refine w_joinR (sj := ⟨[(0, .cv (.val (.ptr (some (l0, 0))))), (2, .cv (.val (.int .i64 depth))), (3, .cv (.val (.int .i64 signs1))), (5, .cv (.val (.ptr (some (h.n + 0, 0))))), (76, .cv (.val (.bool v)))], h.on [some (.cells [.val (.int .i64 n.Kind), .val (.int .i64 n.Set), .val (.sl (List.map eNode n.Kids))])]⟩) (A_ops ?_) ?_
        · have hr := Holds.intro (D := fun z => z = v) vF9 rfl
          refine A_upto 1 ?_
          obtain ⟨r1, eF6, hr⟩ := hr.bind
          refine A_call (out := ?o_eF6) (hp := ?p_eF6) ?c_eF6 ?d_eF6 ?_
          case c_eF6 => exact syntax_fits_runs n eF6
          case d_eF6 => rfl
          refine A_upto 2 ?_
          rcases hr.ite with ⟨cF7, hr⟩ | ⟨cF7, hr⟩
          · refine A_ops_end ?_
            obtain rfl : _ = v := hr
            exact w_k (A_cut hwf)
          · refine A_upto 5 ?_
            rcases hr.ite with ⟨cF8, hr⟩ | ⟨cF8, hr⟩
            · refine A_ops_end ?_
              obtain rfl : _ = v := hr
              exact w_k (A_cut hwf)
            · refine A_ops_end ?_
              obtain rfl : _ = v := hr
              exact w_k (A_cut hwf)
        refine A_condH hr (fun cF10 hr => ?_) (fun cF10 hr => ?_)
        · refine w_seq ?_
          refine A_region ?_
          refine w_n ?_
          refine w_ret ?_
          obtain rfl := hD _ hr
          exact (w_tr (A_endR (A_cut (os' := []) (sl := [(8, .cv (.val (.bool false)))]) (h := (h.upd l0 (.cells [.val (.int .i64 c.sets), .val (.int .i64 c.met)]))) (A_wf hwf hl0)) ⟨rfl, on_nil (A_wf hwf hl0)⟩))
        · refine w_skip ?_
          refine w_n ?_
          refine w_seq ?_
          refine w_seq ?_
          refine A_region ?_
          refine w_n ?_
          refine w_K (D := D) (fun xX : (Int × Int) => ⟨[], (h.upd l0 (.cells [.val (.int .i64 xX.1), .val (.int .i64 xX.2)])).on []⟩) (fun xX : (Int × Int) => syntax_checker_right.k2 xX.1 xX.2) (fun xX s' hr ht => ?_) ?_
          · obtain ⟨sets, met⟩ := xX
            dsimp only [syntax_checker_right.k2] at hr ht
            refine (w_nT ht ?_)
            refine w_seq ?_
            refine A_region ?_
            refine w_n ?_
            refine w_ret ?_
            obtain rfl := hD _ hr
            exact (A_endR (A_cut (os' := []) (sl := [(8, .cv (.val (.bool true)))]) (h := (h.upd l0 (.cells [.val (.int .i64 sets), .val (.int .i64 met)]))) (A_wf hwf hl0)) ⟨rfl, on_nil (A_wf hwf hl0)⟩)
          · refine w_block ?_
            refine w_Loop (fun xX : (Int × Int × Int) => ⟨[(0, .cv (.val (.ptr (some (l0, 0))))), (2, .cv (.val (.int .i64 depth))), (3, .cv (.val (.int .i64 signs1))), (5, .cv (.val (.ptr (some (h.n + 0, 0))))), (78, .cv (.val (.sl (List.map eNode n.Kids)))), (79, .cv (.val (.int .i64 (n.Kids.length : Int)))), (80, .cv (.val (.int .i64 xX.1)))], (h.upd l0 (.cells [.val (.int .i64 xX.2.1), .val (.int .i64 xX.2.2)])).on [some (.cells [.val (.int .i64 n.Kind), .val (.int .i64 n.Set), .val (.sl (List.map eNode n.Kids))])]⟩) hr (A_cut (A_wf hwf hl0)) (fun W1 xX hr => ?_)
            obtain ⟨v1, sets1, met1⟩ := xX
            dsimp only [syntax_checker_right.b1] at hr
            refine w_seq ?_
            refine A_region ?_
            refine w_n ?_
            refine w_seq ?_
            refine A_condH hr (fun cF11 hr => ?_) (fun cF11 hr => ?_)
            · refine w_skip ?_
              refine w_n ?_
              refine w_seq ?_
              refine w_block ?_
              refine w_seq ?_
              obtain ⟨x, nF12, eF13, gF14, hr⟩ := hr.idx
              refine A_region ?_
              refine w_n ?_
              refine w_seq ?_
              refine A_region ?_
              refine w_n ?_
              refine w_seq ?_
              refine w_seq ?_
              refine A_ops ?_
              refine A_upto 2 ?_
              obtain ⟨r2, eF15, hr⟩ := hr.bind
              refine A_call (out := ?o_eF15) (hp := ?p_eF15) ?c_eF15 ?d_eF15 ?_
              case c_eF15 => exact syntax_open_runs n x eF15
              case d_eF15 => rfl
              refine w_ops_nil ?_
              refine w_n ?_
              refine w_K (D := (Aft W1 D)) (fun xX : Int => ⟨[(0, .cv (.val (.ptr (some (l0, 0))))), (2, .cv (.val (.int .i64 depth))), (3, .cv (.val (.int .i64 signs1))), (5, .cv (.val (.ptr (some (h.n + 0, 0))))), (11, .cv (.val (.ptr (some (h.n + 1, 0))))), (12, .cv (.val (.int .i64 xX))), (78, .cv (.val (.sl (List.map eNode n.Kids)))), (79, .cv (.val (.int .i64 (n.Kids.length : Int)))), (80, .cv (.val (.int .i64 v1)))], (h.upd l0 (.cells [.val (.int .i64 sets1), .val (.int .i64 met1)])).on [some (.cells [.val (.int .i64 n.Kind), .val (.int .i64 n.Set), .val (.sl (List.map eNode n.Kids))]), some (.cells [.val (.int .i64 x.Kind), .val (.int .i64 x.Set), .val (.sl (List.map eNode x.Kids))])]⟩) (fun xX : Int => syntax_checker_right.k3 (syntax_checker_right.r fu) signs1 v1 sets1 met1 x xX) (fun xX s' hr ht => ?_) ?_
              · obtain ⟨more, rfl⟩ : ∃ z, z = xX := ⟨xX, rfl⟩
                dsimp only [syntax_checker_right.k3] at hr ht
                refine (w_nT ht ?_)
                obtain ⟨⟨v2, sets2, met2⟩, vF18, hr⟩ := hr.bind
                dsimp only at hr
                refine w_joinR (sj := ⟨[(0, .cv (.val (.ptr (some (l0, 0))))), (2, .cv (.val (.int .i64 depth))), (3, .cv (.val (.int .i64 signs1))), (5, .cv (.val (.ptr (some (h.n + 0, 0))))), (78, .cv (.val (.sl (List.map eNode n.Kids)))), (79, .cv (.val (.int .i64 (n.Kids.length : Int)))), (80, .cv (.val (.int .i64 v1))), (99, .cv (.val (.bool v2)))], (h.upd l0 (.cells [.val (.int .i64 sets2), .val (.int .i64 met2)])).on [some (.cells [.val (.int .i64 n.Kind), .val (.int .i64 n.Set), .val (.sl (List.map eNode n.Kids))])]⟩) (A_ops ?_) ?_
                · have hr := Holds.intro (D := fun z => z = (v2, sets2, met2)) vF18 rfl
                  refine A_upto 3 ?_
                  rcases hr.ite with ⟨cF16, hr⟩ | ⟨cF16, hr⟩
                  · refine A_upto 4 ?_
                    refine A_off ?_
                    refine A_ops_end ?_
                    cases (show (_, _, _) = (v2, sets2, met2) from hr)
                    exact w_k (A_cut (A_wf hwf hl0))
                  · refine A_upto 4 ?_
                    obtain ⟨r3, eF17, hr⟩ := hr.bind
                    refine A_call (out := ?o_eF17) (hp := ?p_eF17) ?c_eF17 ?d_eF17 ?_
                    case c_eF17 => (refine ih (Tsyntax_checker.mk sets1 met1) x more signs1 (l0) ?_ eF17; exact A_hat)
                    case d_eF17 => rfl
                    refine A_ops_end ?_
                    cases (show (_, _, _) = (v2, sets2, met2) from hr)
                    exact w_k (A_cut (A_wf hwf hl0))
                refine A_condH hr (fun cF19 hr => ?_) (fun cF19 hr => ?_)
                · refine w_seq ?_
                  refine A_region ?_
                  refine w_n ?_
                  refine w_ret ?_
                  obtain rfl := hD _ hr
                  exact (w_br (w_tr (w_tr (w_br (w_tr (w_tr (A_endR (A_cut (os' := []) (sl := [(8, .cv (.val (.bool false)))]) (h := (h.upd l0 (.cells [.val (.int .i64 sets2), .val (.int .i64 met2)]))) (A_wf hwf hl0)) ⟨rfl, on_nil (A_wf hwf hl0)⟩)))))))
                · refine w_skip ?_
                  refine (w_bn (w_n ?_))
                  refine A_region ?_
                  exact (w_k ⟨((IntKind.i64.wrap (v1 + (1 : Int))), sets2, met2), hr, (A_cut (A_wf hwf hl0))⟩)
              · refine A_condH hr (fun cF20 hr => ?_) (fun cF20 hr => ?_)
                · refine A_region ?_
                  exact (w_k ⟨(IntKind.i64.wrap (depth + (1 : Int))), hr, (A_cut (A_wf hwf hl0))⟩)
                · refine w_skip ?_
                  exact (w_k ⟨depth, hr, (A_cut (A_wf hwf hl0))⟩)
            · refine w_exit ?_
              exact (w_te (w_te (w_bx (w_k ⟨(sets1, met1), (hr).map, (A_cut (A_wf hwf hl0))⟩))))
      · refine A_condH hr (fun cF21 hr => ?_) (fun cF21 hr => ?_)
        · refine A_region ?_
          exact (w_k ⟨(0 : Int), hr, (A_cut hwf)⟩)
        · refine w_skip ?_
          exact (w_k ⟨(IntKind.i64.wrap (signs + (1 : Int))), hr, (A_cut hwf)⟩)
theorem syntax_checker_right_runs (c : Tsyntax_checker) (n : TNode) (depth : Int) (signs : Int) (l0 : Nat) {h : Heap} (ha0 : h.at_ l0 = some (.cells [.val (.int .i64 c.sets), .val (.int .i64 c.met)])) {a : (Bool × Tsyntax_checker)} (e : syntax_checker_right c n depth signs = some a) :
    Runs CT 18 [.cv (.val (.ptr (some (l0, 0)))), .cv (.val (.agg [.int .i64 n.Kind, .int .i64 n.Set, .sl (List.map eNode n.Kids)])), .cv (.val (.int .i64 depth)), .cv (.val (.int .i64 signs))] h fun o h' => o = [.cv (.val (.bool a.1))] ∧ h' = (h.upd l0 (.cells [.val (.int .i64 a.2.sets), .val (.int .i64 a.2.met)])) := by
  obtain ⟨fuN, fuH⟩ := lim_some e
  exact syntax_checker_right_runs_r fuN c n depth signs l0 ha0 (fuH fuN (Nat.le_refl fuN))
end Go.Val

/- part LW9 -/
/- scansion/syntax.Right runs as it is read off. -/
namespace Go.Val
set_option maxRecDepth 20000
open Go.Proofs
theorem syntax_Right_runs (p : TProgram) {h : Heap} {a : Bool} (e : syntax_Right p = some a) :
    Runs CT 9 [.cv (.val (.agg [.sl (List.map (eL eRange) p.Sets), .sl (List.map eRule p.Rules)]))] h fun o h' => o = [.cv (.val (.bool a))] ∧ h' = h := by
  refine Runs.start Tryz.f9 _ Tryz.func9 rfl (by rw [Tryz.ntmps9]; simp) (by rfl) (by rfl) (fun hwf hu => ?_)
  obtain ⟨D, hD, hr⟩ : ∃ D : Bool → Prop, (∀ z, D z → z = a) ∧ Holds (syntax_Right p) D := ⟨fun z => z = a, fun _ h => h, Holds.intro e rfl⟩
  dsimp only [syntax_Right] at hr
  change wpCode _ _ _ _ _ ⟨[(0, .cv (.val (.agg [.sl (List.map (eL eRange) p.Sets), .sl (List.map eRule p.Rules)])))], h.on []⟩
  refine w_seq ?_
  refine A_region ?_
  refine w_n ?_
  refine w_seq ?_
  refine w_joinR (sj := ⟨[(1, .cv (.val (.ptr (some (h.n + 0, 0))))), (18, .cv (.val (.bool ((decide ((p.Sets.length : Int) > (60 : Int))) || (decide ((p.Rules.length : Int) > (64 : Int)))))))], h.on [some (.cells [.val (.sl (List.map (eL eRange) p.Sets)), .val (.sl (List.map eRule p.Rules))])]⟩) (A_ops ?_) ?_
  · refine A_upto 5 ?_
    rcases Bool.eq_false_or_eq_true (decide ((p.Sets.length : Int) > (60 : Int))) with cF1 | cF1
    · refine A_ops_end ?_
      exact w_k (A_cut hwf)
    · refine A_ops_end ?_
      exact w_k (A_cut hwf)
  refine A_condH hr (fun cF2 hr => ?_) (fun cF2 hr => ?_)
  · refine w_seq ?_
    refine A_region ?_
    refine w_n ?_
    refine w_ret ?_
    obtain rfl := hD _ hr
    exact (w_tr (A_endR (A_cut (os' := []) (sl := [(2, .cv (.val (.bool false)))]) hwf) ⟨rfl, on_nil hwf⟩))
  · refine w_skip ?_
    refine w_n ?_
    refine w_seq ?_
    refine A_region ?_
    refine w_n ?_
    refine w_seq ?_
    refine w_seq ?_
    refine A_region ?_
    refine w_n ?_
    refine w_K (D := D) (fun xX : List (Str × Bool) => ⟨[(1, .cv (.val (.ptr (some (h.n + 0, 0))))), (3, .cv (.val (.map (some (h.n + 1)))))], h.on [some (.cells [.val (.sl (List.map (eL eRange) p.Sets)), .val (.sl (List.map eRule p.Rules))]), some (.map 9 (encM eS eB xX))]⟩) (fun xX : List (Str × Bool) => syntax_Right.k1 p xX) (fun xX s' hr ht => ?_) ?_
    · obtain ⟨m, rfl⟩ : ∃ z, z = xX := ⟨xX, rfl⟩
      dsimp only [syntax_Right.k1] at hr ht
      refine (w_nT ht ?_)
      refine w_seq ?_
      refine A_region ?_
      refine w_n ?_
      refine w_seq ?_
      refine w_seq ?_
      refine A_region ?_
      refine w_n ?_
      refine w_K (D := D) (fun xX : (Int × Int) => ⟨[(1, .cv (.val (.ptr (some (h.n + 0, 0))))), (3, .cv (.val (.map (some (h.n + 1))))), (6, .cv (.val (.ptr (some (h.n + 2, 0)))))], h.on [some (.cells [.val (.sl (List.map (eL eRange) p.Sets)), .val (.sl (List.map eRule p.Rules))]), some (.map 9 (encM eS eB m)), some (.cells [.val (.int .i64 xX.1), .val (.int .i64 xX.2)])]⟩) (fun xX : (Int × Int) => syntax_Right.k2 p m xX.1 xX.2) (fun xX s' hr ht => ?_) ?_
      · obtain ⟨sets, met⟩ := xX
        dsimp only [syntax_Right.k2] at hr ht
        refine (w_nT ht ?_)
        refine w_joinR (sj := ⟨[(2, .cv (.val (.bool (((m.length : Int) == (p.Sets.length : Int)) && (met == (p.Sets.length : Int))))))], h.on []⟩) (w_drawn [0, 1, 2, 3, 4, 5, 6, 7, 8, 9, 10, 11, 12, 13, 14, 15, 16] (by rfl) ?_) ?_
        · refine A_prun [0, 1, 2, 3, 4, 5, 6] [6, 5, 4, 3, 2, 1, 0] ?_
          rcases Bool.eq_false_or_eq_true ((m.length : Int) == (p.Sets.length : Int)) with cF3 | cF3
          · refine A_prun [7, 8, 9, 10, 11, 12, 13, 14, 15] [15, 14, 13, 12, 11, 10, 9, 8, 7, 6, 5, 4, 3, 2, 1, 0] ?_
            refine A_pop [] ?_
            refine A_pend ?_
            exact w_k (A_cut hwf)
          · refine A_prun [7, 8, 9, 10, 11, 12, 13, 14, 15] [15, 14, 13, 12, 11, 10, 9, 8, 7, 6, 5, 4, 3, 2, 1, 0] ?_
            refine A_pop [] ?_
            refine A_pend ?_
            exact w_k (A_cut hwf)
        refine w_ret ?_
        obtain rfl := hD _ hr
        exact (A_endR (A_cut (os' := []) (sl := [(2, .cv (.val (.bool (((m.length : Int) == (p.Sets.length : Int)) && (met == (p.Sets.length : Int))))))]) hwf) ⟨rfl, on_nil hwf⟩)
      · refine w_block ?_
        refine w_Loop (fun xX : (Int × Int × Int) => ⟨[(1, .cv (.val (.ptr (some (h.n + 0, 0))))), (3, .cv (.val (.map (some (h.n + 1))))), (6, .cv (.val (.ptr (some (h.n + 2, 0))))), (40, .cv (.val (.sl (List.map eRule p.Rules)))), (41, .cv (.val (.int .i64 (p.Rules.length : Int)))), (42, .cv (.val (.int .i64 xX.1)))], h.on [some (.cells [.val (.sl (List.map (eL eRange) p.Sets)), .val (.sl (List.map eRule p.Rules))]), some (.map 9 (encM eS eB m)), some (.cells [.val (.int .i64 xX.2.1), .val (.int .i64 xX.2.2)])]⟩) hr (A_cut hwf) (fun W1 xX hr => ?_)
        obtain ⟨v2, sets1, met1⟩ := xX
        dsimp only [syntax_Right.b1] at hr
        refine w_seq ?_
        refine A_region ?_
        refine w_n ?_
        refine w_seq ?_
        refine A_condH hr (fun cF4 hr => ?_) (fun cF4 hr => ?_)
        · refine w_skip ?_
          refine w_n ?_
          refine w_seq ?_
          refine w_block ?_
          refine w_seq ?_
          obtain ⟨x, nF5, eF6, gF7, hr⟩ := hr.idx
          refine A_region ?_
          refine w_n ?_
          obtain ⟨⟨v3, sets2, met2⟩, vF11, hr⟩ := hr.bind
          dsimp only at hr
          refine w_joinR (sj := ⟨[(1, .cv (.val (.ptr (some (h.n + 0, 0))))), (3, .cv (.val (.map (some (h.n + 1))))), (6, .cv (.val (.ptr (some (h.n + 2, 0))))), (40, .cv (.val (.sl (List.map eRule p.Rules)))), (41, .cv (.val (.int .i64 (p.Rules.length : Int)))), (42, .cv (.val (.int .i64 v2))), (57, .cv (.val (.bool v3)))], h.on [some (.cells [.val (.sl (List.map (eL eRange) p.Sets)), .val (.sl (List.map eRule p.Rules))]), some (.map 9 (encM eS eB m)), some (.cells [.val (.int .i64 sets2), .val (.int .i64 met2)])]⟩) (A_ops ?_) ?_
          · have hr := Holds.intro (D := fun z => z = (v3, sets2, met2)) vF11 rfl
            refine A_upto 3 ?_
            obtain ⟨r, eF8, hr⟩ := hr.bind
            refine A_call (out := ?o_eF8) (hp := ?p_eF8) ?c_eF8 ?d_eF8 ?_
            case c_eF8 => (refine syntax_checker_right_runs (Tsyntax_checker.mk sets1 met1) x.Left (0 : Int) (0 : Int) (h.n + 2) ?_ eF8; (simp (disch := (apply Apart.mk; decide)) only [go_sem, Nat.reduceAdd, Nat.reduceLT, Nat.reduceMul, Nat.reduceLeDiff, Int.reduceToNat, Int.reduceLT, Int.reduceLE]))
            case d_eF8 => rfl
            refine A_upto 2 ?_
            rcases hr.ite with ⟨cF9, hr⟩ | ⟨cF9, hr⟩
            · refine A_upto 3 ?_
              refine A_off ?_
              refine A_ops_end ?_
              cases (show (_, _, _) = (v3, sets2, met2) from hr)
              exact w_k (A_cut hwf)
            · refine A_upto 3 ?_
              obtain ⟨r1, eF10, hr⟩ := hr.bind
              refine A_call (out := ?o_eF10) (hp := ?p_eF10) ?c_eF10 ?d_eF10 ?_
              case c_eF10 => (refine syntax_checker_right_runs r.2 x.Right (0 : Int) (0 : Int) (h.n + 2) ?_ eF10; (simp (disch := (apply Apart.mk; decide)) only [go_sem, Nat.reduceAdd, Nat.reduceLT, Nat.reduceMul, Nat.reduceLeDiff, Int.reduceToNat, Int.reduceLT, Int.reduceLE]))
              case d_eF10 => rfl
              refine A_ops_end ?_
              cases (show (_, _, _) = (v3, sets2, met2) from hr)
              exact w_k (A_cut hwf)
          refine A_condH hr (fun cF12 hr => ?_) (fun cF12 hr => ?_)
          · refine w_seq ?_
            refine A_region ?_
            refine w_n ?_
            refine w_ret ?_
            obtain rfl := hD _ hr
            exact (w_br (w_tr (w_tr (w_br (w_tr (w_tr (A_endR (A_cut (os' := []) (sl := [(2, .cv (.val (.bool false)))]) hwf) ⟨rfl, on_nil hwf⟩)))))))
          · refine w_skip ?_
            refine (w_bn (w_n ?_))
            refine A_region ?_
            exact (w_k ⟨((IntKind.i64.wrap (v2 + (1 : Int))), sets2, met2), hr, (A_cut hwf)⟩)
        · refine w_exit ?_
          exact (w_te (w_te (w_bx (w_k ⟨(sets1, met1), (hr).map, (A_cut hwf)⟩))))
    · refine w_block ?_
      refine w_Loop (fun xX : (Int × List (Str × Bool)) => ⟨[(1, .cv (.val (.ptr (some (h.n + 0, 0))))), (3, .cv (.val (.map (some (h.n + 1))))), (21, .cv (.val (.sl (List.map (eL eRange) p.Sets)))), (22, .cv (.val (.int .i64 (p.Sets.length : Int)))), (23, .cv (.val (.int .i64 xX.1)))], h.on [some (.cells [.val (.sl (List.map (eL eRange) p.Sets)), .val (.sl (List.map eRule p.Rules))]), some (.map 9 (encM eS eB xX.2))]⟩) hr (A_cut hwf) (fun W2 xX hr => ?_)
      obtain ⟨v4, m1⟩ := xX
      dsimp only [syntax_Right.b2] at hr
      refine w_seq ?_
      refine A_region ?_
      refine w_n ?_
      refine w_seq ?_
      refine A_condH hr (fun cF13 hr => ?_) (fun cF13 hr => ?_)
      · refine w_skip ?_
        refine w_n ?_
        refine w_seq ?_
        refine w_block ?_
        refine w_seq ?_
        obtain ⟨xs, nF14, eF15, gF16, hr⟩ := hr.idx
        refine A_region ?_
        refine w_n ?_
        refine w_seq ?_
        refine w_seq ?_
        refine A_ops ?_
        refine A_upto 1 ?_
        obtain ⟨r2, eF17, hr⟩ := hr.bind
        refine A_call (out := ?o_eF17) (hp := ?p_eF17) ?c_eF17 ?d_eF17 ?_
        case c_eF17 => exact syntax_set_runs xs eF17
        case d_eF17 => rfl
        refine A_ops_end ?_
        refine w_n ?_
        refine A_condH hr (fun cF18 hr => ?_) (fun cF18 hr => ?_)
        · refine w_seq ?_
          refine A_region ?_
          refine w_n ?_
          refine w_ret ?_
          obtain rfl := hD _ hr
          exact (w_tr (w_br (w_tr (w_tr (w_br (w_tr (w_tr (A_endR (A_cut (os' := []) (sl := [(2, .cv (.val (.bool false)))]) hwf) ⟨rfl, on_nil hwf⟩))))))))
        · refine w_skip ?_
          refine w_n ?_
          refine A_ops ?_
          refine A_upto 2 ?_
          obtain ⟨r3, eF19, hr⟩ := hr.bind
          refine A_call (out := ?o_eF19) (hp := ?p_eF19) ?c_eF19 ?d_eF19 ?_
          case c_eF19 => exact lex_Set_runs xs eF19
          case d_eF19 => rfl
          refine A_ops_end ?_
          refine (w_bn (w_n ?_))
          refine A_region ?_
          exact (w_k ⟨((IntKind.i64.wrap (v4 + (1 : Int))), (aput r3 true m1)), hr, (A_cut hwf)⟩)
      · refine w_exit ?_
        exact (w_te (w_te (w_bx (w_k ⟨m1, (hr).map, (A_cut hwf)⟩))))
end Go.Val

/- part LW31 -/
/- strings_Join is told by hand. -/
namespace Go.Val
theorem strings_Join_runs (l : List Str) (s : Str) {h : Heap} {u : Str} (e : strings_Join l s = some u) :
    Runs CT 31 [.cv (.val (.sl (List.map eS l))), .cv (.val (.str (bs s)))] h fun o h' => o = [.cv (.val (.str (bs u)))] ∧ h' = h :=
  Runs.hand (C := CT) (show handL 31 _ h _ h from ⟨rfl, .inr (.inl ⟨rfl, l, s, u, rfl, e, rfl⟩)⟩) ⟨rfl, rfl⟩
end Go.Val

/- part LW14 -/
/- scansion/syntax.printed runs as it is read off. -/
namespace Go.Val
set_option maxRecDepth 20000
open Go.Proofs
theorem syntax_printed_runs_r : ∀ (fu : Nat) (n : TNode) (sets : List (List TRange)) {h : Heap} {a : Str} (e : syntax_printed.r fu n sets = some a),
    Runs CT 14 [.cv (.val (.agg [.int .i64 n.Kind, .int .i64 n.Set, .sl (List.map eNode n.Kids)])), .cv (.val (.sl (List.map (eL eRange) sets)))] h fun o h' => o = [.cv (.val (.str (bs a)))] ∧ h' = h := by
  intro fu
  induction fu with
  | zero => intros; rename_i e; simp [syntax_printed.r] at e
  | succ fu ih =>
    intro n sets h a e
    refine Runs.start Tryz.f14 _ Tryz.func14 rfl (by rw [Tryz.ntmps14]; simp) (by rfl) (by rfl) (fun hwf hu => ?_)
    obtain ⟨D, hD, hr⟩ : ∃ D : Str → Prop, (∀ z, D z → z = a) ∧ Holds (syntax_printed.r (fu + 1) n sets) D := ⟨fun z => z = a, fun _ h => h, Holds.intro e rfl⟩
    dsimp only [syntax_printed.r] at hr
    change wpCode _ _ _ _ _ ⟨[(0, .cv (.val (.agg [.int .i64 n.Kind, .int .i64 n.Set, .sl (List.map eNode n.Kids)]))), (1, .cv (.val (.sl (List.map (eL eRange) sets))))], h.on []⟩
    refine w_seq ?_
    refine A_region ?_
    refine w_n ?_
    refine w_seq ?_
    refine w_seq ?_
    refine A_region ?_
    refine w_n ?_
    refine A_condH hr (fun cF1 hr => ?_) (fun cF1 hr => ?_)
    · refine w_seq ?_
      refine A_ops ?_
      obtain ⟨xs, nF2, eF3, gF4, hr⟩ := hr.idx
      refine A_upto 5 ?_
      obtain ⟨r, eF5, hr⟩ := hr.bind
      refine A_call (out := ?o_eF5) (hp := ?p_eF5) ?c_eF5 ?d_eF5 ?_
      case c_eF5 => exact lex_Set_runs xs eF5
      case d_eF5 => rfl
      refine A_ops_end ?_
      refine w_n ?_
      refine w_ret ?_
      obtain rfl := hD _ hr
      exact (w_tr (A_endR (A_cut (os' := []) (sl := [(4, .cv (.val (.str (bs r))))]) hwf) ⟨rfl, on_nil hwf⟩))
    · refine w_skip ?_
      refine w_n ?_
      refine w_seq ?_
      refine A_region ?_
      refine w_n ?_
      refine w_seq ?_
      refine w_seq ?_
      refine A_region ?_
      refine w_n ?_
      refine w_K (D := D) (fun xX : List Str => ⟨[(2, .cv (.val (.ptr (some (h.n + 0, 0))))), (5, .cv (.row 9 (List.map eS xX)))], h.on [some (.cells [.val (.int .i64 n.Kind), .val (.int .i64 n.Set), .val (.sl (List.map eNode n.Kids))])]⟩) (fun xX : List Str => syntax_printed.k1 n xX) (fun xX s' hr ht => ?_) ?_
      · obtain ⟨l, rfl⟩ : ∃ z, z = xX := ⟨xX, rfl⟩
        dsimp only [syntax_printed.k1] at hr ht
        refine (w_nT ht ?_)
        refine w_seq ?_
        refine w_seq ?_
        refine A_region ?_
        refine w_n ?_
        refine w_block ?_
        refine w_seq ?_
        refine A_region ?_
        refine w_n ?_
        refine A_condH hr (fun cF6 hr => ?_) (fun cF6 hr => ?_)
        · refine w_seq ?_
          refine A_ops ?_
          refine A_upto 1 ?_
          obtain ⟨r1, eF7, hr⟩ := hr.bind
          refine A_call (out := ?o_eF7) (hp := ?p_eF7) ?c_eF7 ?d_eF7 ?_
          case c_eF7 => exact strings_Join_runs l ([124] : Str) eF7
          case d_eF7 => rfl
          refine A_ops_end ?_
          refine w_n ?_
          refine w_ret ?_
          obtain rfl := hD _ hr
          exact (w_br (w_tr (A_endR (A_cut (os' := []) (sl := [(4, .cv (.val (.str (bs r1))))]) hwf) ⟨rfl, on_nil hwf⟩)))
        · refine w_seq ?_
          refine A_region ?_
          refine w_n ?_
          refine A_condH hr (fun cF8 hr => ?_) (fun cF8 hr => ?_)
          · refine w_seq ?_
            obtain ⟨s, eF9, gF10, hr⟩ := hr.idxK
            obtain ⟨nF11, hr⟩ := hr.roomS
            refine A_region ?_
            refine w_n ?_
            refine w_ret ?_
            obtain rfl := hD _ hr
            exact (w_br (w_tr (A_endR (A_cut (os' := []) (sl := [(4, .cv (.val (.str (bs (s ++ ([42] : Str))))))]) hwf) ⟨rfl, on_nil hwf⟩)))
          · refine w_seq ?_
            refine A_region ?_
            refine w_n ?_
            refine A_condH hr (fun cF12 hr => ?_) (fun cF12 hr => ?_)
            · refine w_seq ?_
              obtain ⟨s1, eF13, gF14, hr⟩ := hr.idxK
              obtain ⟨nF15, hr⟩ := hr.roomS
              refine A_region ?_
              refine w_n ?_
              refine w_ret ?_
              obtain rfl := hD _ hr
              exact (w_br (w_tr (A_endR (A_cut (os' := []) (sl := [(4, .cv (.val (.str (bs (s1 ++ ([43] : Str))))))]) hwf) ⟨rfl, on_nil hwf⟩)))
            · refine w_seq ?_
              refine A_region ?_
              refine w_n ?_
              refine A_condH hr (fun cF16 hr => ?_) (fun cF16 hr => ?_)
              · refine w_seq ?_
                obtain ⟨s2, eF17, gF18, hr⟩ := hr.idxK
                obtain ⟨nF19, hr⟩ := hr.roomS
                refine A_region ?_
                refine w_n ?_
                refine w_ret ?_
                obtain rfl := hD _ hr
                exact (w_br (w_tr (A_endR (A_cut (os' := []) (sl := [(4, .cv (.val (.str (bs (s2 ++ ([63] : Str))))))]) hwf) ⟨rfl, on_nil hwf⟩)))
              · refine w_skip ?_
                refine (w_bn (w_n ?_))
                refine w_seq ?_
                refine A_ops ?_
                refine A_upto 1 ?_
                obtain ⟨r2, eF20, hr⟩ := hr.bind
                refine A_call (out := ?o_eF20) (hp := ?p_eF20) ?c_eF20 ?d_eF20 ?_
                case c_eF20 => exact strings_Join_runs l ([] : Str) eF20
                case d_eF20 => rfl
                refine A_ops_end ?_
                refine w_n ?_
                refine w_ret ?_
                obtain rfl := hD _ hr
                exact (A_endR (A_cut (os' := []) (sl := [(4, .cv (.val (.str (bs r2))))]) hwf) ⟨rfl, on_nil hwf⟩)
      · refine w_block ?_
        refine w_Loop (fun xX : (List Str × Int) => ⟨[(1, .cv (.val (.sl (List.map (eL eRange) sets)))), (2, .cv (.val (.ptr (some (h.n + 0, 0))))), (5, .cv (.row 9 (List.map eS xX.1))), (19, .cv (.val (.sl (List.map eNode n.Kids)))), (20, .cv (.val (.int .i64 (n.Kids.length : Int)))), (21, .cv (.val (.int .i64 xX.2)))], h.on [some (.cells [.val (.int .i64 n.Kind), .val (.int .i64 n.Set), .val (.sl (List.map eNode n.Kids))])]⟩) hr (A_cut hwf) (fun W1 xX hr => ?_)
        obtain ⟨l1, v⟩ := xX
        dsimp only [syntax_printed.b1] at hr
        refine w_seq ?_
        refine A_region ?_
        refine w_n ?_
        refine w_seq ?_
        refine A_condH hr (fun cF21 hr => ?_) (fun cF21 hr => ?_)
        · refine w_skip ?_
          refine w_n ?_
          refine w_seq ?_
          refine w_block ?_
          refine w_seq ?_
          obtain ⟨x, nF22, eF23, gF24, hr⟩ := hr.idx
          refine A_region ?_
          refine w_n ?_
          refine w_seq ?_
          refine A_ops ?_
          refine A_upto 2 ?_
          obtain ⟨r3, eF25, hr⟩ := hr.bind
          refine A_call (out := ?o_eF25) (hp := ?p_eF25) ?c_eF25 ?d_eF25 ?_
          case c_eF25 => exact ih x sets eF25
          case d_eF25 => rfl
          refine A_ops_end ?_
          refine w_n ?_
          refine w_seq ?_
          refine w_seq ?_
          refine A_ops ?_
          refine A_upto 2 ?_
          obtain ⟨r4, eF26, hr⟩ := hr.bind
          refine A_call (out := ?o_eF26) (hp := ?p_eF26) ?c_eF26 ?d_eF26 ?_
          case c_eF26 => exact syntax_open_runs n x eF26
          case d_eF26 => rfl
          refine w_ops_nil ?_
          refine w_n ?_
          refine w_K (D := (Aft W1 D)) (fun xX : Str => ⟨[(1, .cv (.val (.sl (List.map (eL eRange) sets)))), (2, .cv (.val (.ptr (some (h.n + 0, 0))))), (5, .cv (.row 9 (List.map eS l1))), (8, .cv (.val (.str (bs xX)))), (19, .cv (.val (.sl (List.map eNode n.Kids)))), (20, .cv (.val (.int .i64 (n.Kids.length : Int)))), (21, .cv (.val (.int .i64 v)))], h.on [some (.cells [.val (.int .i64 n.Kind), .val (.int .i64 n.Set), .val (.sl (List.map eNode n.Kids))])]⟩) (fun xX : Str => syntax_printed.k2 l1 v xX) (fun xX s' hr ht => ?_) ?_
          · obtain ⟨s3, rfl⟩ : ∃ z, z = xX := ⟨xX, rfl⟩
            dsimp only [syntax_printed.k2] at hr ht
            refine (w_nT ht ?_)
            obtain ⟨nF27, hr⟩ := hr.room
            refine A_region ?_
            refine (w_bn (w_n ?_))
            refine A_region ?_
            exact (w_k ⟨((l1 ++ ([s3])), (IntKind.i64.wrap (v + (1 : Int)))), hr, (A_cut hwf)⟩)
          · refine A_condH hr (fun cF28 hr => ?_) (fun cF28 hr => ?_)
            · obtain ⟨nF29, hr⟩ := hr.roomS
              obtain ⟨nF30, hr⟩ := hr.roomS
              refine A_region ?_
              exact (w_k ⟨((([40] : Str) ++ r3) ++ ([41] : Str)), hr, (A_cut hwf)⟩)
            · refine w_skip ?_
              exact (w_k ⟨r3, hr, (A_cut hwf)⟩)
        · refine w_exit ?_
          exact (w_te (w_te (w_bx (w_k ⟨l1, (hr).map, (A_cut hwf)⟩))))
theorem syntax_printed_runs (n : TNode) (sets : List (List TRange)) {h : Heap} {a : Str} (e : syntax_printed n sets = some a) :
    Runs CT 14 [.cv (.val (.agg [.int .i64 n.Kind, .int .i64 n.Set, .sl (List.map eNode n.Kids)])), .cv (.val (.sl (List.map (eL eRange) sets)))] h fun o h' => o = [.cv (.val (.str (bs a)))] ∧ h' = h := by
  obtain ⟨fuN, fuH⟩ := lim_some e
  exact syntax_printed_runs_r fuN n sets (fuH fuN (Nat.le_refl fuN))
end Go.Val

/- part LW7 -/
/- scansion/syntax.Print runs as it is read off. -/
namespace Go.Val
set_option maxRecDepth 20000
open Go.Proofs
theorem syntax_Print_runs (p : TProgram) {h : Heap} {a : (List UInt8 × Int)} (e : syntax_Print p = some a) :
    Runs CT 7 [.cv (.val (.agg [.sl (List.map (eL eRange) p.Sets), .sl (List.map eRule p.Rules)]))] h fun o h' => o = [.cv (.val (.sl (List.map eU a.1))), .cv (.val (.int .i64 a.2))] ∧ h' = h := by
  refine Runs.start Tryz.f7 _ Tryz.func7 rfl (by rw [Tryz.ntmps7]; simp) (by rfl) (by rfl) (fun hwf hu => ?_)
  obtain ⟨D, hD, hr⟩ : ∃ D : (List UInt8 × Int) → Prop, (∀ z, D z → z = a) ∧ Holds (syntax_Print p) D := ⟨fun z => z = a, fun _ h => h, Holds.intro e rfl⟩
  dsimp only [syntax_Print] at hr
  change wpCode _ _ _ _ _ ⟨[(0, .cv (.val (.agg [.sl (List.map (eL eRange) p.Sets), .sl (List.map eRule p.Rules)])))], h.on []⟩
  refine w_seq ?_
  refine A_region ?_
  refine w_n ?_
  refine w_seq ?_
  refine w_seq ?_
  refine A_ops ?_
  refine A_upto 1 ?_
  obtain ⟨r, eF1, hr⟩ := hr.bind
  refine A_call (out := ?o_eF1) (hp := ?p_eF1) ?c_eF1 ?d_eF1 ?_
  case c_eF1 => exact syntax_Right_runs p eF1
  case d_eF1 => rfl
  refine A_ops_end ?_
  refine w_n ?_
  refine A_condH hr (fun cF2 hr => ?_) (fun cF2 hr => ?_)
  · refine w_seq ?_
    refine A_region ?_
    refine w_n ?_
    refine w_ret ?_
    obtain rfl := hD _ hr
    exact (w_tr (A_endR (A_cut (os' := []) (sl := [(2, .cv (.val (.sl (List.map eU ([] : List UInt8))))), (3, .cv (.val (.int .i64 (1 : Int))))]) hwf) ⟨rfl, on_nil hwf⟩))
  · refine w_skip ?_
    refine w_n ?_
    refine w_seq ?_
    refine A_region ?_
    refine w_n ?_
    refine w_seq ?_
    refine w_seq ?_
    refine A_region ?_
    refine w_n ?_
    refine w_K (D := D) (fun xX : List UInt8 => ⟨[(4, .cv (.row 5 (List.map eU xX)))], h.on []⟩) (fun xX : List UInt8 => syntax_Print.k1 xX) (fun xX s' hr ht => ?_) ?_
    · obtain ⟨b, rfl⟩ : ∃ z, z = xX := ⟨xX, rfl⟩
      dsimp only [syntax_Print.k1] at hr ht
      refine (w_nT ht ?_)
      refine w_seq ?_
      refine A_region ?_
      refine w_n ?_
      refine w_ret ?_
      obtain rfl := hD _ hr
      exact (A_endR (.fix _ _ (.slot 2) 5 _ (by simp (disch := (apply Apart.mk; decide)) only [go_sem, Nat.reduceAdd, Nat.reduceLT, Nat.reduceMul, Nat.reduceLeDiff, Int.reduceToNat, Int.reduceLT, Int.reduceLE, cF2]; rfl) (A_cut (os' := []) (sl := [(2, .cv (.val (.sl (List.map eU b)))), (3, .cv (.val (.int .i64 (0 : Int))))]) hwf)) ⟨rfl, on_nil hwf⟩)
    · refine w_block ?_
      refine w_Loop (fun xX : (List UInt8 × Int) => ⟨[(1, .cv (.val (.ptr (some (h.n + 0, 0))))), (4, .cv (.row 5 (List.map eU xX.1))), (12, .cv (.val (.sl (List.map eRule p.Rules)))), (13, .cv (.val (.int .i64 (p.Rules.length : Int)))), (14, .cv (.val (.int .i64 xX.2)))], h.on [some (.cells [.val (.sl (List.map (eL eRange) p.Sets)), .val (.sl (List.map eRule p.Rules))])]⟩) hr (A_cut hwf) (fun W1 xX hr => ?_)
      obtain ⟨b1, v⟩ := xX
      dsimp only [syntax_Print.b1] at hr
      refine w_seq ?_
      refine A_region ?_
      refine w_n ?_
      refine w_seq ?_
      refine A_condH hr (fun cF3 hr => ?_) (fun cF3 hr => ?_)
      · refine w_skip ?_
        refine w_n ?_
        refine w_seq ?_
        refine w_block ?_
        refine w_seq ?_
        obtain ⟨x, nF4, eF5, gF6, hr⟩ := hr.idx
        refine A_region ?_
        refine w_n ?_
        refine w_seq ?_
        refine A_region ?_
        refine w_n ?_
        refine w_seq ?_
        refine w_seq ?_
        refine A_region ?_
        refine w_n ?_
        refine w_K (D := (Aft W1 D)) (fun xX : Str => ⟨[(1, .cv (.val (.ptr (some (h.n + 0, 0))))), (4, .cv (.row 5 (List.map eU b1))), (6, .cv (.val (.ptr (some (h.n + 1, 0))))), (7, .cv (.val (.str (bs xX)))), (12, .cv (.val (.sl (List.map eRule p.Rules)))), (13, .cv (.val (.int .i64 (p.Rules.length : Int)))), (14, .cv (.val (.int .i64 v)))], h.on [some (.cells [.val (.sl (List.map (eL eRange) p.Sets)), .val (.sl (List.map eRule p.Rules))]), some (.cells [.val (.bool x.Break), .val (.int .i64 x.Left.Kind), .val (.int .i64 x.Left.Set), .val (.sl (List.map eNode x.Left.Kids)), .val (.int .i64 x.Right.Kind), .val (.int .i64 x.Right.Set), .val (.sl (List.map eNode x.Right.Kids))])]⟩) (fun xX : Str => syntax_Print.k2 p b1 v x xX) (fun xX s' hr ht => ?_) ?_
        · obtain ⟨word, rfl⟩ : ∃ z, z = xX := ⟨xX, rfl⟩
          dsimp only [syntax_Print.k2] at hr ht
          refine (w_nT ht ?_)
          refine w_drawn [0, 1, 2, 3, 4, 5, 9, 10, 11, 12, 6, 7, 8, 13, 14, 15, 16, 17] (by rfl) ?_
          refine A_prun [0, 1, 2, 3, 4, 5, 9, 10, 11, 12] [12, 11, 10, 9, 5, 4, 3, 2, 1, 0] ?_
          obtain ⟨r1, eF7, hr⟩ := hr.bind
          refine A_pcall [12, 11, 10, 9, 1, 0] (out := ?o_eF7) (hp := ?p_eF7) ?c_eF7 ?d_eF7 ?_
          case c_eF7 => exact syntax_printed_runs x.Left p.Sets eF7
          case d_eF7 => rfl
          obtain ⟨nF8, hr⟩ := hr.roomS
          obtain ⟨nF9, hr⟩ := hr.roomS
          refine A_prun [7, 8] [8, 7, 12, 11, 10, 9, 1, 0] ?_
          obtain ⟨r2, eF10, hr⟩ := hr.bind
          refine A_pcall [8, 7, 1, 0] (out := ?o_eF10) (hp := ?p_eF10) ?c_eF10 ?d_eF10 ?_
          case c_eF10 => exact syntax_printed_runs x.Right p.Sets eF10
          case d_eF10 => rfl
          obtain ⟨nF11, hr⟩ := hr.roomS
          obtain ⟨nF12, hr⟩ := hr.roomS
          obtain ⟨nF13, hr⟩ := hr.room
          refine A_prun [14, 15] [15, 14, 8, 7, 1, 0] ?_
          refine A_pop [] ?_
          refine A_pop [] ?_
          refine A_pend ?_
          refine (w_bn (w_n ?_))
          refine A_region ?_
          exact (w_k ⟨((b1 ++ ((((word ++ r1) ++ ([47] : Str)) ++ r2) ++ ([59, 10] : Str))), (IntKind.i64.wrap (v + (1 : Int)))), hr, (A_cut hwf)⟩)
        · refine A_condH hr (fun cF14 hr => ?_) (fun cF14 hr => ?_)
          · refine A_region ?_
            exact (w_k ⟨([98, 114, 101, 97, 107, 32] : Str), hr, (A_cut hwf)⟩)
          · refine w_skip ?_
            exact (w_k ⟨([107, 101, 101, 112, 32] : Str), hr, (A_cut hwf)⟩)
      · refine w_exit ?_
        exact (w_te (w_te (w_bx (w_k ⟨b1, (hr).map, (A_cut hwf)⟩))))
end Go.Val

/- part LW5 -/
/- The small thing that works is told by hand. -/
namespace Go.Val
theorem scansionlaw08_awake_runs {h : Heap} {u : Bool} (e : scansionlaw08_awake = some u) :
    Runs CT 5 [] h fun o h' => o = [.cv (.val (.bool u))] ∧ h' = h := by
  obtain rfl : true = u := Option.some.inj e
  exact Runs.hand (C := CT) (show handL 5 _ h _ h from ⟨rfl, .inr (.inr (.inl ⟨rfl, rfl, rfl⟩))⟩) ⟨rfl, rfl⟩
end Go.Val

/- part LW43 -/
/- utf_Decode is told by hand. -/
namespace Go.Val
theorem utf_Decode_runs (b : List UInt8) {h : Heap} {u : List TUnit} (e : utf_Decode b = some u) :
    Runs CT 43 [.cv (.val (.sl (List.map eU b)))] h fun o h' => o = [.cv (.val (.sl (List.map eUnit u)))] ∧ h' = h :=
  Runs.hand (C := CT) (show handL 43 _ h _ h from ⟨rfl, .inr (.inr (.inr ⟨rfl, b, u, rfl, e, rfl⟩))⟩) ⟨rfl, rfl⟩
end Go.Val

/- part LW45 -/
/- (*scansion/lex.reader).now runs as it is read off. -/
namespace Go.Val
set_option maxRecDepth 20000
open Go.Proofs
theorem lex_reader_now_runs (r : Tlex_reader) (l0 : Nat) {h : Heap} (ha0 : h.at_ l0 = some (.cells [.val (.sl (List.map eUnit r.units)), .val (.int .i64 r.place), .val (.int .i64 r.whole), .val (.int .i64 r.fault)])) {a : Int} (e : lex_reader_now r = some a) :
    Runs CT 45 [.cv (.val (.ptr (some (l0, 0))))] h fun o h' => o = [.cv (.val (.int .i64 a))] ∧ h' = h := by
  refine Runs.start Tryz.f45 _ Tryz.func45 rfl (by rw [Tryz.ntmps45]; simp) (by rfl) (by rfl) (fun hwf hu => ?_)
  have hl0 := (hwf _ _ ha0).1
  have kl0 := locF hl0
  obtain ⟨D, hD, hr⟩ : ∃ D : Int → Prop, (∀ z, D z → z = a) ∧ Holds (lex_reader_now r) D := ⟨fun z => z = a, fun _ h => h, Holds.intro e rfl⟩
  dsimp only [lex_reader_now] at hr
  change wpCode _ _ _ _ _ ⟨[(0, .cv (.val (.ptr (some (l0, 0)))))], h.on []⟩
  refine w_seq ?_
  refine A_region ?_
  refine w_n ?_
  refine w_seq ?_
  refine w_block ?_
  refine w_seq ?_
  refine w_drawn [0, 1, 2, 3, 4, 5, 6, 7, 8, 9, 10] (by rfl) ?_
  refine A_prun [0, 1, 2, 3, 4, 5, 6, 7, 8, 9] [9, 8, 7, 6, 5, 4, 3, 2, 1, 0] ?_
  refine A_pop [] ?_
  refine A_pend ?_
  refine w_n ?_
  refine A_condH hr (fun cF1 hr => ?_) (fun cF1 hr => ?_)
  · refine w_seq ?_
    refine A_region ?_
    refine w_n ?_
    refine w_ret ?_
    obtain rfl := hD _ hr
    exact (w_br (w_tr (A_endR (A_cut (os' := []) (sl := [(2, .cv (.val (.int .i64 (-1 : Int))))]) hwf) ⟨rfl, on_nil hwf⟩)))
  · refine w_seq ?_
    refine w_drawn [0, 1, 2, 3, 4, 5, 6, 7, 8, 9, 10, 11] (by rfl) ?_
    obtain ⟨x, nF2, eF3, gF4, hr⟩ := hr.idx
    refine A_prun [0, 1, 2, 3, 4, 5, 6, 7, 8, 9, 10] [10, 9, 8, 7, 6, 5, 4, 3, 2, 1, 0] ?_
    refine A_pop [] ?_
    refine A_pend ?_
    refine w_n ?_
    refine A_condH hr (fun cF5 hr => ?_) (fun cF5 hr => ?_)
    · refine w_seq ?_
      refine A_region ?_
      refine w_n ?_
      refine w_ret ?_
      obtain rfl := hD _ hr
      exact (w_br (w_tr (A_endR (A_cut (os' := []) (sl := [(2, .cv (.val (.int .i64 (-2 : Int))))]) hwf) ⟨rfl, on_nil hwf⟩)))
    · refine w_skip ?_
      refine (w_bn (w_n ?_))
      refine w_seq ?_
      refine w_drawn [0, 1, 2, 3, 4, 5, 6, 7, 8, 9, 10, 11] (by rfl) ?_
      refine A_prun [0, 1, 2, 3, 4, 5, 6, 7, 8, 9, 10] [10, 9, 8, 7, 6, 5, 4, 3, 2, 1, 0] ?_
      refine A_pop [] ?_
      refine A_pend ?_
      refine w_n ?_
      refine w_ret ?_
      obtain rfl := hD _ hr
      exact (A_endR (A_cut (os' := []) (sl := [(2, .cv (.val (.int .i64 x.Rune)))]) hwf) ⟨rfl, on_nil hwf⟩)
end Go.Val

/- part LW64 -/
/- (*scansion/lex.reader).skip runs as it is read off. -/
namespace Go.Val
set_option maxRecDepth 20000
open Go.Proofs
theorem lex_reader_skip_runs (r : Tlex_reader) (is : Int → Option Bool) (l0 : Nat) (fid_is : FuncId) (caps_is : List DVal) {h : Heap} (h_is : ∀ (g : Heap) x0 r, is x0 = some r → Runs CT fid_is ([.cv (.val (.int .i64 x0))] ++ sval caps_is) g fun o h' => o = [.cv (.val (.bool r))] ∧ h' = g) (d_is : ∀ i, CT.how fid_is i = .data) (ha0 : h.at_ l0 = some (.cells [.val (.sl (List.map eUnit r.units)), .val (.int .i64 r.place), .val (.int .i64 r.whole), .val (.int .i64 r.fault)])) {a : Tlex_reader} (e : lex_reader_skip r is = some a) :
    Runs CT 64 [.cv (.val (.ptr (some (l0, 0)))), .cv (.val (.fn fid_is [] caps_is))] h fun o h' => o = [] ∧ h' = (h.upd l0 (.cells [.val (.sl (List.map eUnit a.units)), .val (.int .i64 a.place), .val (.int .i64 a.whole), .val (.int .i64 a.fault)])) := by
  refine Runs.start Tryz.f64 _ Tryz.func64 rfl (by rw [Tryz.ntmps64]; simp) (by rfl) (by rfl) (fun hwf hu => ?_)
  have u_is : underL h.n caps_is := (hu (.cv (.val (.fn fid_is [] caps_is))) (by simp)).2
  have vu_is := fun k => under_add (k := k) u_is
  have hl0 := (hwf _ _ ha0).1
  have kl0 := locF hl0
  have ku0 := updF hl0 ha0
  obtain ⟨D, hD, hr⟩ : ∃ D : Tlex_reader → Prop, (∀ z, D z → z = a) ∧ Holds (lex_reader_skip r is) D := ⟨fun z => z = a, fun _ h => h, Holds.intro e rfl⟩
  dsimp only [lex_reader_skip] at hr
  change wpCode _ _ _ _ _ ⟨[(0, .cv (.val (.ptr (some (l0, 0))))), (1, .cv (.val (.fn fid_is [] caps_is)))], h.on []⟩
  refine w_K (D := D) (fun xX : Int => ⟨[], (h.upd l0 (.cells [.val (.sl (List.map eUnit r.units)), .val (.int .i64 xX), .val (.int .i64 r.whole), .val (.int .i64 r.fault)])).on []⟩) (fun xX : Int => lex_reader_skip.k1 r xX) (fun xX s' hr ht => ?_) ?_
  · obtain ⟨place, rfl⟩ : ∃ z, z = xX := ⟨xX, rfl⟩
    dsimp only [lex_reader_skip.k1] at hr ht
    obtain rfl := hD _ hr
    exact (A_endN (To.trans ht (A_cut (os' := []) (sl := []) (h := (h.upd l0 (.cells [.val (.sl (List.map eUnit r.units)), .val (.int .i64 place), .val (.int .i64 r.whole), .val (.int .i64 r.fault)]))) (A_wf hwf hl0))) ⟨rfl, on_nil (A_wf hwf hl0)⟩)
  · refine w_block ?_
    refine w_Loop (fun xX : Int => ⟨[(0, .cv (.val (.ptr (some (l0, 0))))), (1, .cv (.val (.fn fid_is [] caps_is)))], (h.upd l0 (.cells [.val (.sl (List.map eUnit r.units)), .val (.int .i64 xX), .val (.int .i64 r.whole), .val (.int .i64 r.fault)])).on []⟩) hr (A_cut (A_wf hwf hl0)) (fun W1 xX hr => ?_)
    obtain ⟨place1, rfl⟩ : ∃ z, z = xX := ⟨xX, rfl⟩
    dsimp only [lex_reader_skip.b1] at hr
    refine w_seq ?_
    refine w_seq ?_
    refine A_ops ?_
    refine A_upto 2 ?_
    obtain ⟨r1, eF1, hr⟩ := hr.bind
    refine A_call (out := ?o_eF1) (hp := ?p_eF1) ?c_eF1 ?d_eF1 ?_
    case c_eF1 => (refine lex_reader_now_runs (Tlex_reader.mk r.units place1 r.whole r.fault) (l0) ?_ eF1; exact A_hat)
    case d_eF1 => rfl
    obtain ⟨r2, eF2, hr⟩ := hr.bind
    refine A_call (out := ?o_eF2) (hp := ?p_eF2) ?c_eF2 ?d_eF2 ?_
    case c_eF2 => exact h_is _ _ _ eF2
    case d_eF2 => rfl
    refine w_ops_nil ?_
    refine w_n ?_
    refine A_condH hr (fun cF3 hr => ?_) (fun cF3 hr => ?_)
    · refine w_skip ?_
      refine w_n ?_
      refine w_block ?_
      refine A_region ?_
      exact (w_bn (w_k ⟨(IntKind.i64.wrap (place1 + (1 : Int))), hr, (A_cut (A_wf hwf hl0))⟩))
    · refine w_exit ?_
      exact (w_te (w_te (w_bx (w_k ⟨place1, (hr).map, (A_cut (A_wf hwf hl0))⟩))))
end Go.Val

/- part LW66 -/
/- scansion/lex.one runs as it is read off. -/
namespace Go.Val
set_option maxRecDepth 20000
open Go.Proofs
theorem lex_one_runs (of : Str) (r : Int) {h : Heap} {a : Bool} (e : lex_one of r = some a) :
    Runs CT 66 [.cv (.val (.str (bs of))), .cv (.val (.int .i64 r))] h fun o h' => o = [.cv (.val (.bool a))] ∧ h' = h := by
  refine Runs.start Tryz.f66 _ Tryz.func66 rfl (by rw [Tryz.ntmps66]; simp) (by rfl) (by rfl) (fun hwf hu => ?_)
  obtain ⟨D, hD, hr⟩ : ∃ D : Bool → Prop, (∀ z, D z → z = a) ∧ Holds (lex_one of r) D := ⟨fun z => z = a, fun _ h => h, Holds.intro e rfl⟩
  dsimp only [lex_one] at hr
  change wpCode _ _ _ _ _ ⟨[(0, .cv (.val (.str (bs of)))), (1, .cv (.val (.int .i64 r)))], h.on []⟩
  refine w_seq ?_
  refine A_region ?_
  refine w_n ?_
  refine w_seq ?_
  refine w_seq ?_
  refine A_region ?_
  refine w_n ?_
  refine w_K (D := D) (fun xX : Unit => ⟨[], h.on []⟩) (fun xX : Unit => lex_one.k1) (fun xX s' hr ht => ?_) ?_
  · dsimp only [lex_one.k1] at hr ht
    refine (w_nT ht ?_)
    refine w_seq ?_
    refine A_region ?_
    refine w_n ?_
    refine w_ret ?_
    obtain rfl := hD _ hr
    exact (A_endR (A_cut (os' := []) (sl := [(4, .cv (.val (.bool false)))]) hwf) ⟨rfl, on_nil hwf⟩)
  · refine w_block ?_
    refine w_Loop (fun xX : Int => ⟨[(0, .cv (.val (.str (bs of)))), (1, .cv (.val (.int .i64 r))), (7, .cv (.val (.int .i64 (of.length : Int)))), (8, .cv (.val (.int .i64 xX)))], h.on []⟩) hr (A_cut hwf) (fun W1 xX hr => ?_)
    obtain ⟨v, rfl⟩ : ∃ z, z = xX := ⟨xX, rfl⟩
    dsimp only [lex_one.b1] at hr
    refine w_seq ?_
    refine A_region ?_
    refine w_n ?_
    refine w_seq ?_
    refine A_condH hr (fun cF1 hr => ?_) (fun cF1 hr => ?_)
    · refine w_skip ?_
      refine w_n ?_
      refine w_seq ?_
      refine w_block ?_
      refine w_seq ?_
      refine A_region ?_
      refine w_n ?_
      refine w_seq ?_
      obtain ⟨c, nF2, eF3, gF4, hr⟩ := hr.idx
      refine A_region ?_
      refine w_n ?_
      refine A_condH hr (fun cF5 hr => ?_) (fun cF5 hr => ?_)
      · refine w_seq ?_
        refine A_region ?_
        refine w_n ?_
        refine w_ret ?_
        obtain rfl := hD _ hr
        exact (w_br (w_tr (w_tr (w_br (w_tr (w_tr (A_endR (A_cut (os' := []) (sl := [(4, .cv (.val (.bool true)))]) hwf) ⟨rfl, on_nil hwf⟩)))))))
      · refine w_skip ?_
        refine (w_bn (w_n ?_))
        refine A_region ?_
        exact (w_k ⟨(IntKind.i64.wrap (v + (1 : Int))), hr, (A_cut hwf)⟩)
    · refine w_exit ?_
      exact (w_te (w_te (w_bx (w_k ⟨(), (hr).map, (A_cut hwf)⟩))))
end Go.Val

/- part LW65 -/
/- (*scansion/lex.reader).blank$1 runs as it is read off. -/
namespace Go.Val
set_option maxRecDepth 20000
open Go.Proofs
theorem lex_reader_blank_1_runs (n : Int) {h : Heap} {a : Bool} (e : lex_reader_blank_1 n = some a) :
    Runs CT 65 [.cv (.val (.int .i64 n))] h fun o h' => o = [.cv (.val (.bool a))] ∧ h' = h := by
  refine Runs.start Tryz.f65 _ Tryz.func65 rfl (by rw [Tryz.ntmps65]; simp) (by rfl) (by rfl) (fun hwf hu => ?_)
  obtain ⟨D, hD, hr⟩ : ∃ D : Bool → Prop, (∀ z, D z → z = a) ∧ Holds (lex_reader_blank_1 n) D := ⟨fun z => z = a, fun _ h => h, Holds.intro e rfl⟩
  dsimp only [lex_reader_blank_1] at hr
  change wpCode _ _ _ _ _ ⟨[(0, .cv (.val (.int .i64 n)))], h.on []⟩
  refine w_seq ?_
  refine A_region ?_
  refine w_n ?_
  refine w_seq ?_
  refine A_ops ?_
  refine A_upto 1 ?_
  obtain ⟨r, eF1, hr⟩ := hr.bind
  refine A_call (out := ?o_eF1) (hp := ?p_eF1) ?c_eF1 ?d_eF1 ?_
  case c_eF1 => exact lex_one_runs ([32, 9, 13, 10] : Str) n eF1
  case d_eF1 => rfl
  refine A_ops_end ?_
  refine w_n ?_
  refine w_ret ?_
  obtain rfl := hD _ hr
  exact (A_endR (A_cut (os' := []) (sl := [(2, .cv (.val (.bool r)))]) hwf) ⟨rfl, on_nil hwf⟩)
end Go.Val

/- part LW67 -/
/- (*scansion/lex.reader).blank$2 runs as it is read off. -/
namespace Go.Val
set_option maxRecDepth 20000
open Go.Proofs
theorem lex_reader_blank_2_runs (n : Int) {h : Heap} {a : Bool} (e : lex_reader_blank_2 n = some a) :
    Runs CT 67 [.cv (.val (.int .i64 n))] h fun o h' => o = [.cv (.val (.bool a))] ∧ h' = h := by
  refine Runs.start Tryz.f67 _ Tryz.func67 rfl (by rw [Tryz.ntmps67]; simp) (by rfl) (by rfl) (fun hwf hu => ?_)
  obtain ⟨D, hD, hr⟩ : ∃ D : Bool → Prop, (∀ z, D z → z = a) ∧ Holds (lex_reader_blank_2 n) D := ⟨fun z => z = a, fun _ h => h, Holds.intro e rfl⟩
  dsimp only [lex_reader_blank_2] at hr
  change wpCode _ _ _ _ _ ⟨[(0, .cv (.val (.int .i64 n)))], h.on []⟩
  refine w_seq ?_
  refine A_region ?_
  refine w_n ?_
  refine w_joinR (sj := ⟨[(2, .cv (.val (.bool ((n != (10 : Int)) && ((n != (-1 : Int)) && (n != (-2 : Int)))))))], h.on []⟩) (A_ops ?_) ?_
  · refine A_upto 3 ?_
    rcases Bool.eq_false_or_eq_true (n != (10 : Int)) with cF1 | cF1
    · refine A_upto 4 ?_
      rcases Bool.eq_false_or_eq_true (n != (-1 : Int)) with cF2 | cF2
      · refine A_ops_end ?_
        exact w_k (A_cut hwf)
      · refine A_ops_end ?_
        exact w_k (A_cut hwf)
    · refine A_ops_end ?_
      exact w_k (A_cut hwf)
  refine w_ret ?_
  obtain rfl := hD _ hr
  exact (A_endR (A_cut (os' := []) (sl := [(2, .cv (.val (.bool ((n != (10 : Int)) && ((n != (-1 : Int)) && (n != (-2 : Int)))))))]) hwf) ⟨rfl, on_nil hwf⟩)
end Go.Val

/- part LW44 -/
/- (*scansion/lex.reader).blank runs as it is read off. -/
namespace Go.Val
set_option maxRecDepth 20000
open Go.Proofs
theorem lex_reader_blank_runs (r : Tlex_reader) (l0 : Nat) {h : Heap} (ha0 : h.at_ l0 = some (.cells [.val (.sl (List.map eUnit r.units)), .val (.int .i64 r.place), .val (.int .i64 r.whole), .val (.int .i64 r.fault)])) {a : Tlex_reader} (e : lex_reader_blank r = some a) :
    Runs CT 44 [.cv (.val (.ptr (some (l0, 0))))] h fun o h' => o = [] ∧ h' = (h.upd l0 (.cells [.val (.sl (List.map eUnit a.units)), .val (.int .i64 a.place), .val (.int .i64 a.whole), .val (.int .i64 a.fault)])) := by
  refine Runs.start Tryz.f44 _ Tryz.func44 rfl (by rw [Tryz.ntmps44]; simp) (by rfl) (by rfl) (fun hwf hu => ?_)
  have hl0 := (hwf _ _ ha0).1
  have kl0 := locF hl0
  have ku0 := updF hl0 ha0
  obtain ⟨D, hD, hr⟩ : ∃ D : Tlex_reader → Prop, (∀ z, D z → z = a) ∧ Holds (lex_reader_blank r) D := ⟨fun z => z = a, fun _ h => h, Holds.intro e rfl⟩
  dsimp only [lex_reader_blank] at hr
  change wpCode _ _ _ _ _ ⟨[(0, .cv (.val (.ptr (some (l0, 0)))))], h.on []⟩
  refine w_block ?_
  refine w_Loop (fun xX : (List TUnit × Int × Int × Int) => ⟨[(0, .cv (.val (.ptr (some (l0, 0)))))], (h.upd l0 (.cells [.val (.sl (List.map eUnit xX.1)), .val (.int .i64 xX.2.1), .val (.int .i64 xX.2.2.1), .val (.int .i64 xX.2.2.2)])).on []⟩) hr (A_cut (A_wf hwf hl0)) (fun W1 xX hr => ?_)
  obtain ⟨units, place, whole, fault⟩ := xX
  dsimp only [lex_reader_blank.b1] at hr
  refine w_block ?_
  refine w_seq ?_
  refine A_ops ?_
  refine A_upto 1 ?_
  obtain ⟨r1, eF1, hr⟩ := hr.bind
  refine A_call (out := ?o_eF1) (hp := ?p_eF1) ?c_eF1 ?d_eF1 ?_
  case c_eF1 => (refine lex_reader_skip_runs (Tlex_reader.mk units place whole fault) (lex_reader_blank_1) (l0) _ _ ?_ ?_ ?_ eF1; (exact (fun os x0 r e => lex_reader_blank_1_runs x0 e)); (exact (fun i => by simp [CT])); (simp (disch := (apply Apart.mk; decide)) only [go_sem, Nat.reduceAdd, Nat.reduceLT, Nat.reduceMul, Nat.reduceLeDiff, Int.reduceToNat, Int.reduceLT, Int.reduceLE, ha0, on_atB hl0, lt_add hl0, lt_at hl0, on_updB hl0, on_atU hl0, on_updU hl0, upd_same ha0]))
  case d_eF1 => rfl
  refine w_ops_nil ?_
  refine w_n ?_
  refine w_seq ?_
  refine w_seq ?_
  refine A_ops ?_
  refine A_upto 1 ?_
  obtain ⟨r2, eF2, hr⟩ := hr.bind
  refine A_call (out := ?o_eF2) (hp := ?p_eF2) ?c_eF2 ?d_eF2 ?_
  case c_eF2 => (refine lex_reader_now_runs r1 (l0) ?_ eF2; exact A_hat)
  case d_eF2 => rfl
  refine A_ops_end ?_
  refine w_n ?_
  refine A_condH hr (fun cF3 hr => ?_) (fun cF3 hr => ?_)
  · refine w_ret ?_
    obtain rfl := hD _ hr
    exact (w_tr (w_br (w_tr (w_br (A_endR (A_cut (os' := []) (sl := []) (h := (h.upd l0 (.cells [.val (.sl (List.map eUnit r1.units)), .val (.int .i64 r1.place), .val (.int .i64 r1.whole), .val (.int .i64 r1.fault)]))) (A_wf hwf hl0)) ⟨rfl, on_nil (A_wf hwf hl0)⟩)))))
  · refine w_skip ?_
    refine w_n ?_
    refine A_ops ?_
    refine A_upto 1 ?_
    obtain ⟨r3, eF4, hr⟩ := hr.bind
    refine A_call (out := ?o_eF4) (hp := ?p_eF4) ?c_eF4 ?d_eF4 ?_
    case c_eF4 => (refine lex_reader_skip_runs r1 (lex_reader_blank_2) (l0) _ _ ?_ ?_ ?_ eF4; (exact (fun os x0 r e => lex_reader_blank_2_runs x0 e)); (exact (fun i => by simp [CT])); (simp (disch := (apply Apart.mk; decide)) only [go_sem, Nat.reduceAdd, Nat.reduceLT, Nat.reduceMul, Nat.reduceLeDiff, Int.reduceToNat, Int.reduceLT, Int.reduceLE, ha0, on_atB hl0, lt_add hl0, lt_at hl0, on_updB hl0, on_atU hl0, on_updU hl0, upd_same ha0]))
    case d_eF4 => rfl
    refine w_ops_nil ?_
    exact (w_bn (w_k ⟨(r3.units, r3.place, r3.whole, r3.fault), hr, (A_cut (A_wf hwf hl0))⟩))
end Go.Val

/- part LW47 -/
/- (*scansion/lex.reader).at runs as it is read off. -/
namespace Go.Val
set_option maxRecDepth 20000
open Go.Proofs
theorem lex_reader_at_runs (r : Tlex_reader) (l0 : Nat) {h : Heap} (ha0 : h.at_ l0 = some (.cells [.val (.sl (List.map eUnit r.units)), .val (.int .i64 r.place), .val (.int .i64 r.whole), .val (.int .i64 r.fault)])) {a : Int} (e : lex_reader_at r = some a) :
    Runs CT 47 [.cv (.val (.ptr (some (l0, 0))))] h fun o h' => o = [.cv (.val (.int .i64 a))] ∧ h' = h := by
  refine Runs.start Tryz.f47 _ Tryz.func47 rfl (by rw [Tryz.ntmps47]; simp) (by rfl) (by rfl) (fun hwf hu => ?_)
  have hl0 := (hwf _ _ ha0).1
  have kl0 := locF hl0
  obtain ⟨D, hD, hr⟩ : ∃ D : Int → Prop, (∀ z, D z → z = a) ∧ Holds (lex_reader_at r) D := ⟨fun z => z = a, fun _ h => h, Holds.intro e rfl⟩
  dsimp only [lex_reader_at] at hr
  change wpCode _ _ _ _ _ ⟨[(0, .cv (.val (.ptr (some (l0, 0)))))], h.on []⟩
  refine w_seq ?_
  refine A_region ?_
  refine w_n ?_
  refine w_seq ?_
  refine w_seq ?_
  refine w_drawn [0, 1, 2, 3, 4, 5, 6, 7, 8, 9] (by rfl) ?_
  refine A_prun [0, 1, 2, 3, 4, 5, 6, 7, 8, 9] [9, 8, 7, 6, 5, 4, 3, 2, 1, 0] ?_
  refine A_pend ?_
  refine w_n ?_
  refine A_condH hr (fun cF1 hr => ?_) (fun cF1 hr => ?_)
  · refine w_seq ?_
    refine A_region ?_
    refine w_n ?_
    refine w_ret ?_
    obtain rfl := hD _ hr
    exact (w_tr (A_endR (A_cut (os' := []) (sl := [(2, .cv (.val (.int .i64 r.whole)))]) hwf) ⟨rfl, on_nil hwf⟩))
  · refine w_skip ?_
    refine w_n ?_
    refine w_seq ?_
    refine w_drawn [0, 1, 2, 3, 4, 5, 6, 7, 8, 9, 10, 11] (by rfl) ?_
    obtain ⟨x, nF2, eF3, gF4, hr⟩ := hr.idx
    refine A_prun [0, 1, 2, 3, 4, 5, 6, 7, 8, 9, 10] [10, 9, 8, 7, 6, 5, 4, 3, 2, 1, 0] ?_
    refine A_pop [] ?_
    refine A_pend ?_
    refine w_n ?_
    refine w_ret ?_
    obtain rfl := hD _ hr
    exact (A_endR (A_cut (os' := []) (sl := [(2, .cv (.val (.int .i64 x.At)))]) hwf) ⟨rfl, on_nil hwf⟩)
end Go.Val

/- part LW93 -/
/- (*scansion/lex.reader).odd runs as it is read off. -/
namespace Go.Val
set_option maxRecDepth 20000
open Go.Proofs
theorem lex_reader_odd_runs (r : Tlex_reader) (l0 : Nat) {h : Heap} (ha0 : h.at_ l0 = some (.cells [.val (.sl (List.map eUnit r.units)), .val (.int .i64 r.place), .val (.int .i64 r.whole), .val (.int .i64 r.fault)])) {a : Tlex_reader} (e : lex_reader_odd r = some a) :
    Runs CT 93 [.cv (.val (.ptr (some (l0, 0))))] h fun o h' => o = [] ∧ h' = (h.upd l0 (.cells [.val (.sl (List.map eUnit a.units)), .val (.int .i64 a.place), .val (.int .i64 a.whole), .val (.int .i64 a.fault)])) := by
  refine Runs.start Tryz.f93 _ Tryz.func93 rfl (by rw [Tryz.ntmps93]; simp) (by rfl) (by rfl) (fun hwf hu => ?_)
  have hl0 := (hwf _ _ ha0).1
  have kl0 := locF hl0
  have ku0 := updF hl0 ha0
  obtain ⟨D, hD, hr⟩ : ∃ D : Tlex_reader → Prop, (∀ z, D z → z = a) ∧ Holds (lex_reader_odd r) D := ⟨fun z => z = a, fun _ h => h, Holds.intro e rfl⟩
  dsimp only [lex_reader_odd] at hr
  change wpCode _ _ _ _ _ ⟨[(0, .cv (.val (.ptr (some (l0, 0)))))], h.on []⟩
  refine w_K (D := D) (fun xX : Int => ⟨[], (h.upd l0 (.cells [.val (.sl (List.map eUnit r.units)), .val (.int .i64 r.place), .val (.int .i64 r.whole), .val (.int .i64 xX)])).on []⟩) (fun xX : Int => lex_reader_odd.k1 r xX) (fun xX s' hr ht => ?_) ?_
  · obtain ⟨fault, rfl⟩ : ∃ z, z = xX := ⟨xX, rfl⟩
    dsimp only [lex_reader_odd.k1] at hr ht
    obtain rfl := hD _ hr
    exact (A_endN (To.trans ht (A_cut (os' := []) (sl := []) (h := (h.upd l0 (.cells [.val (.sl (List.map eUnit r.units)), .val (.int .i64 r.place), .val (.int .i64 r.whole), .val (.int .i64 fault)]))) (A_wf hwf hl0))) ⟨rfl, on_nil (A_wf hwf hl0)⟩)
  · refine w_block ?_
    refine w_seq ?_
    refine A_region ?_
    refine w_n ?_
    refine A_condH hr (fun cF1 hr => ?_) (fun cF1 hr => ?_)
    · refine w_skip ?_
      exact (w_bn (w_k ⟨r.fault, hr, (A_cut (A_wf hwf hl0))⟩))
    · refine w_seq ?_
      refine A_ops ?_
      refine A_upto 1 ?_
      obtain ⟨r1, eF2, hr⟩ := hr.bind
      refine A_call (out := ?o_eF2) (hp := ?p_eF2) ?c_eF2 ?d_eF2 ?_
      case c_eF2 => (refine lex_reader_now_runs r (l0) ?_ eF2; exact A_hat)
      case d_eF2 => rfl
      refine A_ops_end ?_
      refine w_n ?_
      refine A_condH hr (fun cF3 hr => ?_) (fun cF3 hr => ?_)
      · refine A_region ?_
        exact (w_bn (w_k ⟨(7 : Int), hr, (A_cut (A_wf hwf hl0))⟩))
      · refine A_region ?_
        exact (w_bn (w_k ⟨(6 : Int), hr, (A_cut (A_wf hwf hl0))⟩))
end Go.Val

/- part LW68 -/
/- (*scansion/lex.reader).take runs as it is read off. -/
namespace Go.Val
set_option maxRecDepth 20000
open Go.Proofs
theorem lex_reader_take_runs (r : Tlex_reader) (is : Int → Option Bool) (l0 : Nat) (fid_is : FuncId) (caps_is : List DVal) {h : Heap} (h_is : ∀ (g : Heap) x0 r, is x0 = some r → Runs CT fid_is ([.cv (.val (.int .i64 x0))] ++ sval caps_is) g fun o h' => o = [.cv (.val (.bool r))] ∧ h' = g) (d_is : ∀ i, CT.how fid_is i = .data) (ha0 : h.at_ l0 = some (.cells [.val (.sl (List.map eUnit r.units)), .val (.int .i64 r.place), .val (.int .i64 r.whole), .val (.int .i64 r.fault)])) {a : (Int × Tlex_reader)} (e : lex_reader_take r is = some a) :
    Runs CT 68 [.cv (.val (.ptr (some (l0, 0)))), .cv (.val (.fn fid_is [] caps_is))] h fun o h' => o = [.cv (.val (.int .i64 a.1))] ∧ h' = (h.upd l0 (.cells [.val (.sl (List.map eUnit a.2.units)), .val (.int .i64 a.2.place), .val (.int .i64 a.2.whole), .val (.int .i64 a.2.fault)])) := by
  refine Runs.start Tryz.f68 _ Tryz.func68 rfl (by rw [Tryz.ntmps68]; simp) (by rfl) (by rfl) (fun hwf hu => ?_)
  have u_is : underL h.n caps_is := (hu (.cv (.val (.fn fid_is [] caps_is))) (by simp)).2
  have vu_is := fun k => under_add (k := k) u_is
  have hl0 := (hwf _ _ ha0).1
  have kl0 := locF hl0
  have ku0 := updF hl0 ha0
  obtain ⟨D, hD, hr⟩ : ∃ D : (Int × Tlex_reader) → Prop, (∀ z, D z → z = a) ∧ Holds (lex_reader_take r is) D := ⟨fun z => z = a, fun _ h => h, Holds.intro e rfl⟩
  dsimp only [lex_reader_take] at hr
  change wpCode _ _ _ _ _ ⟨[(0, .cv (.val (.ptr (some (l0, 0))))), (1, .cv (.val (.fn fid_is [] caps_is)))], h.on []⟩
  refine w_seq ?_
  refine A_region ?_
  refine w_n ?_
  refine w_seq ?_
  refine A_ops ?_
  refine A_upto 1 ?_
  obtain ⟨r1, eF1, hr⟩ := hr.bind
  refine A_call (out := ?o_eF1) (hp := ?p_eF1) ?c_eF1 ?d_eF1 ?_
  case c_eF1 => (refine lex_reader_now_runs r (l0) ?_ eF1; exact A_hat)
  case d_eF1 => rfl
  refine A_ops_end ?_
  refine w_n ?_
  refine w_seq ?_
  obtain ⟨v, vF4, hr⟩ := hr.bind
  refine w_joinR (sj := ⟨[(0, .cv (.val (.ptr (some (l0, 0))))), (5, .cv (.val (.int .i64 r1))), (18, .cv (.val (.bool v)))], h.on []⟩) (A_ops ?_) ?_
  · have hr := Holds.intro (D := fun z => z = v) vF4 rfl
    refine A_upto 6 ?_
    rcases hr.ite with ⟨cF2, hr⟩ | ⟨cF2, hr⟩
    · refine A_upto 2 ?_
      refine A_off ?_
      refine A_ops_end ?_
      obtain rfl : _ = v := hr
      exact w_k (A_cut hwf)
    · refine A_upto 2 ?_
      obtain ⟨r2, eF3, hr⟩ := hr.bind
      refine A_call (out := ?o_eF3) (hp := ?p_eF3) ?c_eF3 ?d_eF3 ?_
      case c_eF3 => exact h_is _ _ _ eF3
      case d_eF3 => rfl
      refine A_ops_end ?_
      obtain rfl : _ = v := hr
      exact w_k (A_cut hwf)
  refine A_condH hr (fun cF5 hr => ?_) (fun cF5 hr => ?_)
  · refine w_seq ?_
    refine A_ops ?_
    refine A_upto 1 ?_
    obtain ⟨r3, eF6, hr⟩ := hr.bind
    refine A_call (out := ?o_eF6) (hp := ?p_eF6) ?c_eF6 ?d_eF6 ?_
    case c_eF6 => (refine lex_reader_odd_runs r (l0) ?_ eF6; exact A_hat)
    case d_eF6 => rfl
    refine w_ops_nil ?_
    refine w_n ?_
    refine w_seq ?_
    refine A_region ?_
    refine w_n ?_
    refine w_ret ?_
    obtain rfl := hD _ hr
    exact (w_tr (A_endR (A_cut (os' := []) (sl := [(4, .cv (.val (.int .i64 (0 : Int))))]) (h := (h.upd l0 (.cells [.val (.sl (List.map eUnit r3.units)), .val (.int .i64 r3.place), .val (.int .i64 r3.whole), .val (.int .i64 r3.fault)]))) (A_wf hwf hl0)) ⟨rfl, on_nil (A_wf hwf hl0)⟩))
  · refine w_skip ?_
    refine w_n ?_
    refine w_seq ?_
    refine A_region ?_
    refine w_n ?_
    refine w_seq ?_
    refine A_region ?_
    refine w_n ?_
    refine w_ret ?_
    obtain rfl := hD _ hr
    exact (A_endR (A_cut (os' := []) (sl := [(4, .cv (.val (.int .i64 r1)))]) (h := (h.upd l0 (.cells [.val (.sl (List.map eUnit r.units)), .val (.int .i64 (IntKind.i64.wrap (r.place + (1 : Int)))), .val (.int .i64 r.whole), .val (.int .i64 r.fault)]))) (A_wf hwf hl0)) ⟨rfl, on_nil (A_wf hwf hl0)⟩)
end Go.Val

/- part LW70 -/
/- scansion/lex.lower runs as it is read off. -/
namespace Go.Val
set_option maxRecDepth 20000
open Go.Proofs
theorem lex_lower_runs (r : Int) {h : Heap} {a : Bool} (e : lex_lower r = some a) :
    Runs CT 70 [.cv (.val (.int .i64 r))] h fun o h' => o = [.cv (.val (.bool a))] ∧ h' = h := by
  refine Runs.start Tryz.f70 _ Tryz.func70 rfl (by rw [Tryz.ntmps70]; simp) (by rfl) (by rfl) (fun hwf hu => ?_)
  obtain ⟨D, hD, hr⟩ : ∃ D : Bool → Prop, (∀ z, D z → z = a) ∧ Holds (lex_lower r) D := ⟨fun z => z = a, fun _ h => h, Holds.intro e rfl⟩
  dsimp only [lex_lower] at hr
  change wpCode _ _ _ _ _ ⟨[(0, .cv (.val (.int .i64 r)))], h.on []⟩
  refine w_seq ?_
  refine A_region ?_
  refine w_n ?_
  refine w_joinR (sj := ⟨[(2, .cv (.val (.bool ((decide (r ≥ (97 : Int))) && (decide (r ≤ (122 : Int)))))))], h.on []⟩) (A_ops ?_) ?_
  · refine A_upto 3 ?_
    rcases Bool.eq_false_or_eq_true (decide (r ≥ (97 : Int))) with cF1 | cF1
    · refine A_ops_end ?_
      exact w_k (A_cut hwf)
    · refine A_ops_end ?_
      exact w_k (A_cut hwf)
  refine w_ret ?_
  obtain rfl := hD _ hr
  exact (A_endR (A_cut (os' := []) (sl := [(2, .cv (.val (.bool ((decide (r ≥ (97 : Int))) && (decide (r ≤ (122 : Int)))))))]) hwf) ⟨rfl, on_nil hwf⟩)
end Go.Val

/- part LW69 -/
/- (*scansion/lex.reader).token$1 runs as it is read off. -/
namespace Go.Val
set_option maxRecDepth 20000
open Go.Proofs
theorem lex_reader_token_1_runs (n : Int) {h : Heap} {a : Bool} (e : lex_reader_token_1 n = some a) :
    Runs CT 69 [.cv (.val (.int .i64 n))] h fun o h' => o = [.cv (.val (.bool a))] ∧ h' = h := by
  refine Runs.start Tryz.f69 _ Tryz.func69 rfl (by rw [Tryz.ntmps69]; simp) (by rfl) (by rfl) (fun hwf hu => ?_)
  obtain ⟨D, hD, hr⟩ : ∃ D : Bool → Prop, (∀ z, D z → z = a) ∧ Holds (lex_reader_token_1 n) D := ⟨fun z => z = a, fun _ h => h, Holds.intro e rfl⟩
  dsimp only [lex_reader_token_1] at hr
  change wpCode _ _ _ _ _ ⟨[(0, .cv (.val (.int .i64 n)))], h.on []⟩
  refine w_seq ?_
  refine A_region ?_
  refine w_n ?_
  obtain ⟨v, vF5, hr⟩ := hr.bind
  refine w_joinR (sj := ⟨[(2, .cv (.val (.bool v)))], h.on []⟩) (A_ops ?_) ?_
  · have hr := Holds.intro (D := fun z => z = v) vF5 rfl
    refine A_upto 1 ?_
    obtain ⟨r, eF1, hr⟩ := hr.bind
    refine A_call (out := ?o_eF1) (hp := ?p_eF1) ?c_eF1 ?d_eF1 ?_
    case c_eF1 => exact lex_lower_runs n eF1
    case d_eF1 => rfl
    refine A_upto 1 ?_
    rcases hr.ite with ⟨cF2, hr⟩ | ⟨cF2, hr⟩
    · refine A_upto 5 ?_
      refine A_off ?_
      refine A_ops_end ?_
      obtain rfl : _ = v := hr
      exact w_k (A_cut hwf)
    · refine A_upto 4 ?_
      rcases hr.ite with ⟨cF3, hr⟩ | ⟨cF3, hr⟩
      · refine A_upto 1 ?_
        refine A_off ?_
        refine A_ops_end ?_
        obtain rfl : _ = v := hr
        exact w_k (A_cut hwf)
      · refine A_upto 1 ?_
        obtain ⟨r1, eF4, hr⟩ := hr.bind
        refine A_call (out := ?o_eF4) (hp := ?p_eF4) ?c_eF4 ?d_eF4 ?_
        case c_eF4 => exact lex_one_runs ([61, 59, 47, 124, 42, 43, 63, 40, 41, 46, 126, 38, 45] : Str) n eF4
        case d_eF4 => rfl
        refine A_ops_end ?_
        obtain rfl : _ = v := hr
        exact w_k (A_cut hwf)
  refine w_ret ?_
  obtain rfl := hD _ hr
  exact (A_endR (A_cut (os' := []) (sl := [(2, .cv (.val (.bool v)))]) hwf) ⟨rfl, on_nil hwf⟩)
end Go.Val

/- part LW116 -/
/- (*scansion/lex.reader).letter$1 runs as it is read off. -/
namespace Go.Val
set_option maxRecDepth 20000
open Go.Proofs
theorem lex_reader_letter_1_runs (n : Int) {h : Heap} {a : Bool} (e : lex_reader_letter_1 n = some a) :
    Runs CT 116 [.cv (.val (.int .i64 n))] h fun o h' => o = [.cv (.val (.bool a))] ∧ h' = h := by
  refine Runs.start Tryz.f116 _ Tryz.func116 rfl (by rw [Tryz.ntmps116]; simp) (by rfl) (by rfl) (fun hwf hu => ?_)
  obtain ⟨D, hD, hr⟩ : ∃ D : Bool → Prop, (∀ z, D z → z = a) ∧ Holds (lex_reader_letter_1 n) D := ⟨fun z => z = a, fun _ h => h, Holds.intro e rfl⟩
  dsimp only [lex_reader_letter_1] at hr
  change wpCode _ _ _ _ _ ⟨[(0, .cv (.val (.int .i64 n)))], h.on []⟩
  refine w_seq ?_
  refine A_region ?_
  refine w_n ?_
  obtain ⟨v, vF3, hr⟩ := hr.bind
  refine w_joinR (sj := ⟨[(2, .cv (.val (.bool v)))], h.on []⟩) (A_ops ?_) ?_
  · have hr := Holds.intro (D := fun z => z = v) vF3 rfl
    refine A_upto 3 ?_
    rcases hr.ite with ⟨cF1, hr⟩ | ⟨cF1, hr⟩
    · refine A_upto 1 ?_
      obtain ⟨r, eF2, hr⟩ := hr.bind
      refine A_call (out := ?o_eF2) (hp := ?p_eF2) ?c_eF2 ?d_eF2 ?_
      case c_eF2 => exact lex_one_runs ([91, 93, 45] : Str) n eF2
      case d_eF2 => rfl
      refine A_ops_end ?_
      obtain rfl : _ = v := hr
      exact w_k (A_cut hwf)
    · refine A_upto 1 ?_
      refine A_off ?_
      refine A_ops_end ?_
      obtain rfl : _ = v := hr
      exact w_k (A_cut hwf)
  refine w_ret ?_
  obtain rfl := hD _ hr
  exact (A_endR (A_cut (os' := []) (sl := [(2, .cv (.val (.bool v)))]) hwf) ⟨rfl, on_nil hwf⟩)
end Go.Val

/- part LW117 -/
/- (*scansion/lex.reader).letter$2 runs as it is read off. -/
namespace Go.Val
set_option maxRecDepth 20000
open Go.Proofs
theorem lex_reader_letter_2_runs (n : Int) {h : Heap} {a : Bool} (e : lex_reader_letter_2 n = some a) :
    Runs CT 117 [.cv (.val (.int .i64 n))] h fun o h' => o = [.cv (.val (.bool a))] ∧ h' = h := by
  refine Runs.start Tryz.f117 _ Tryz.func117 rfl (by rw [Tryz.ntmps117]; simp) (by rfl) (by rfl) (fun hwf hu => ?_)
  obtain ⟨D, hD, hr⟩ : ∃ D : Bool → Prop, (∀ z, D z → z = a) ∧ Holds (lex_reader_letter_2 n) D := ⟨fun z => z = a, fun _ h => h, Holds.intro e rfl⟩
  dsimp only [lex_reader_letter_2] at hr
  change wpCode _ _ _ _ _ ⟨[(0, .cv (.val (.int .i64 n)))], h.on []⟩
  refine w_seq ?_
  refine A_region ?_
  refine w_n ?_
  obtain ⟨v, vF3, hr⟩ := hr.bind
  refine w_joinR (sj := ⟨[(2, .cv (.val (.bool v)))], h.on []⟩) (A_ops ?_) ?_
  · have hr := Holds.intro (D := fun z => z = v) vF3 rfl
    refine A_upto 3 ?_
    rcases hr.ite with ⟨cF1, hr⟩ | ⟨cF1, hr⟩
    · refine A_upto 1 ?_
      refine A_off ?_
      refine A_ops_end ?_
      obtain rfl : _ = v := hr
      exact w_k (A_cut hwf)
    · refine A_upto 1 ?_
      obtain ⟨r, eF2, hr⟩ := hr.bind
      refine A_call (out := ?o_eF2) (hp := ?p_eF2) ?c_eF2 ?d_eF2 ?_
      case c_eF2 => exact lex_one_runs ([91, 93, 45, 92] : Str) n eF2
      case d_eF2 => rfl
      refine A_ops_end ?_
      obtain rfl : _ = v := hr
      exact w_k (A_cut hwf)
  refine w_ret ?_
  obtain rfl := hD _ hr
  exact (A_endR (A_cut (os' := []) (sl := [(2, .cv (.val (.bool v)))]) hwf) ⟨rfl, on_nil hwf⟩)
end Go.Val

/- part LW132 -/
/- (*scansion/lex.reader).number$1 runs as it is read off. -/
namespace Go.Val
set_option maxRecDepth 20000
open Go.Proofs
theorem lex_reader_number_1_runs (n : Int) {h : Heap} {a : Bool} (e : lex_reader_number_1 n = some a) :
    Runs CT 132 [.cv (.val (.int .i64 n))] h fun o h' => o = [.cv (.val (.bool a))] ∧ h' = h := by
  refine Runs.start Tryz.f132 _ Tryz.func132 rfl (by rw [Tryz.ntmps132]; simp) (by rfl) (by rfl) (fun hwf hu => ?_)
  obtain ⟨D, hD, hr⟩ : ∃ D : Bool → Prop, (∀ z, D z → z = a) ∧ Holds (lex_reader_number_1 n) D := ⟨fun z => z = a, fun _ h => h, Holds.intro e rfl⟩
  dsimp only [lex_reader_number_1] at hr
  change wpCode _ _ _ _ _ ⟨[(0, .cv (.val (.int .i64 n)))], h.on []⟩
  refine w_seq ?_
  refine A_region ?_
  refine w_n ?_
  refine w_seq ?_
  refine A_region ?_
  refine w_n ?_
  refine w_ret ?_
  obtain rfl := hD _ hr
  exact (A_endR (A_cut (os' := []) (sl := [(2, .cv (.val (.bool (n == (123 : Int)))))]) hwf) ⟨rfl, on_nil hwf⟩)
end Go.Val

/- part LW133 -/
/- (*scansion/lex.reader).number$2 runs as it is read off. -/
namespace Go.Val
set_option maxRecDepth 20000
open Go.Proofs
theorem lex_reader_number_2_runs (n : Int) {h : Heap} {a : Bool} (e : lex_reader_number_2 n = some a) :
    Runs CT 133 [.cv (.val (.int .i64 n))] h fun o h' => o = [.cv (.val (.bool a))] ∧ h' = h := by
  refine Runs.start Tryz.f133 _ Tryz.func133 rfl (by rw [Tryz.ntmps133]; simp) (by rfl) (by rfl) (fun hwf hu => ?_)
  obtain ⟨D, hD, hr⟩ : ∃ D : Bool → Prop, (∀ z, D z → z = a) ∧ Holds (lex_reader_number_2 n) D := ⟨fun z => z = a, fun _ h => h, Holds.intro e rfl⟩
  dsimp only [lex_reader_number_2] at hr
  change wpCode _ _ _ _ _ ⟨[(0, .cv (.val (.int .i64 n)))], h.on []⟩
  refine w_seq ?_
  refine A_region ?_
  refine w_n ?_
  refine w_joinR (sj := ⟨[(2, .cv (.val (.bool (bif (decide (n ≥ (48 : Int))) then ((decide (n ≤ (57 : Int))) || ((decide (n ≥ (65 : Int))) && (decide (n ≤ (70 : Int))))) else ((decide (n ≥ (65 : Int))) && (decide (n ≤ (70 : Int))))))))], h.on []⟩) (A_ops ?_) ?_
  · refine A_upto 3 ?_
    rcases Bool.eq_false_or_eq_true (decide (n ≥ (48 : Int))) with cF1 | cF1
    · refine A_upto 4 ?_
      rcases Bool.eq_false_or_eq_true (decide (n ≤ (57 : Int))) with cF2 | cF2
      · refine A_ops_end ?_
        exact w_k (A_cut hwf)
      · refine A_upto 3 ?_
        rcases Bool.eq_false_or_eq_true (decide (n ≥ (65 : Int))) with cF3 | cF3
        · refine A_ops_end ?_
          exact w_k (A_cut hwf)
        · refine A_ops_end ?_
          exact w_k (A_cut hwf)
    · refine A_upto 7 ?_
      rcases Bool.eq_false_or_eq_true (decide (n ≥ (65 : Int))) with cF4 | cF4
      · refine A_ops_end ?_
        exact w_k (A_cut hwf)
      · refine A_ops_end ?_
        exact w_k (A_cut hwf)
  refine w_ret ?_
  obtain rfl := hD _ hr
  exact (A_endR (A_cut (os' := []) (sl := [(2, .cv (.val (.bool (bif (decide (n ≥ (48 : Int))) then ((decide (n ≤ (57 : Int))) || ((decide (n ≥ (65 : Int))) && (decide (n ≤ (70 : Int))))) else ((decide (n ≥ (65 : Int))) && (decide (n ≤ (70 : Int))))))))]) hwf) ⟨rfl, on_nil hwf⟩)
end Go.Val

/- part LW134 -/
/- (*scansion/lex.reader).number$3 runs as it is read off. -/
namespace Go.Val
set_option maxRecDepth 20000
open Go.Proofs
theorem lex_reader_number_3_runs (n : Int) {h : Heap} {a : Bool} (e : lex_reader_number_3 n = some a) :
    Runs CT 134 [.cv (.val (.int .i64 n))] h fun o h' => o = [.cv (.val (.bool a))] ∧ h' = h := by
  refine Runs.start Tryz.f134 _ Tryz.func134 rfl (by rw [Tryz.ntmps134]; simp) (by rfl) (by rfl) (fun hwf hu => ?_)
  obtain ⟨D, hD, hr⟩ : ∃ D : Bool → Prop, (∀ z, D z → z = a) ∧ Holds (lex_reader_number_3 n) D := ⟨fun z => z = a, fun _ h => h, Holds.intro e rfl⟩
  dsimp only [lex_reader_number_3] at hr
  change wpCode _ _ _ _ _ ⟨[(0, .cv (.val (.int .i64 n)))], h.on []⟩
  refine w_seq ?_
  refine A_region ?_
  refine w_n ?_
  refine w_seq ?_
  refine A_region ?_
  refine w_n ?_
  refine w_ret ?_
  obtain rfl := hD _ hr
  exact (A_endR (A_cut (os' := []) (sl := [(2, .cv (.val (.bool (n == (125 : Int)))))]) hwf) ⟨rfl, on_nil hwf⟩)
end Go.Val

/- part LW118 -/
/- (*scansion/lex.reader).number runs as it is read off. -/
namespace Go.Val
set_option maxRecDepth 20000
open Go.Proofs
theorem lex_reader_number_runs (r : Tlex_reader) (l0 : Nat) {h : Heap} (ha0 : h.at_ l0 = some (.cells [.val (.sl (List.map eUnit r.units)), .val (.int .i64 r.place), .val (.int .i64 r.whole), .val (.int .i64 r.fault)])) {a : (Int × Tlex_reader)} (e : lex_reader_number r = some a) :
    Runs CT 118 [.cv (.val (.ptr (some (l0, 0))))] h fun o h' => o = [.cv (.val (.int .i64 a.1))] ∧ h' = (h.upd l0 (.cells [.val (.sl (List.map eUnit a.2.units)), .val (.int .i64 a.2.place), .val (.int .i64 a.2.whole), .val (.int .i64 a.2.fault)])) := by
  refine Runs.start Tryz.f118 _ Tryz.func118 rfl (by rw [Tryz.ntmps118]; simp) (by rfl) (by rfl) (fun hwf hu => ?_)
  have hl0 := (hwf _ _ ha0).1
  have kl0 := locF hl0
  have ku0 := updF hl0 ha0
  obtain ⟨D, hD, hr⟩ : ∃ D : (Int × Tlex_reader) → Prop, (∀ z, D z → z = a) ∧ Holds (lex_reader_number r) D := ⟨fun z => z = a, fun _ h => h, Holds.intro e rfl⟩
  dsimp only [lex_reader_number] at hr
  change wpCode _ _ _ _ _ ⟨[(0, .cv (.val (.ptr (some (l0, 0)))))], h.on []⟩
  refine w_seq ?_
  refine A_region ?_
  refine w_n ?_
  refine w_seq ?_
  refine A_ops ?_
  refine A_upto 1 ?_
  obtain ⟨r1, eF1, hr⟩ := hr.bind
  refine A_call (out := ?o_eF1) (hp := ?p_eF1) ?c_eF1 ?d_eF1 ?_
  case c_eF1 => (refine lex_reader_take_runs r (lex_reader_number_1) (l0) _ _ ?_ ?_ ?_ eF1; (exact (fun os x0 r e => lex_reader_number_1_runs x0 e)); (exact (fun i => by simp [CT])); (simp (disch := (apply Apart.mk; decide)) only [go_sem, Nat.reduceAdd, Nat.reduceLT, Nat.reduceMul, Nat.reduceLeDiff, Int.reduceToNat, Int.reduceLT, Int.reduceLE, ha0, on_atB hl0, lt_add hl0, lt_at hl0, on_updB hl0, on_atU hl0, on_updU hl0, upd_same ha0]))
  case d_eF1 => rfl
  refine w_ops_nil ?_
  refine w_n ?_
  refine w_seq ?_
  refine A_region ?_
  refine w_n ?_
  refine w_seq ?_
  refine A_region ?_
  refine w_n ?_
  refine w_seq ?_
  refine w_seq ?_
  refine A_region ?_
  refine w_n ?_
  refine w_K (D := D) (fun xX : (Int × List TUnit × Int × Int × Int) => ⟨[(0, .cv (.val (.ptr (some (l0, 0))))), (3, .cv (.val (.int .i64 xX.1)))], (h.upd l0 (.cells [.val (.sl (List.map eUnit xX.2.1)), .val (.int .i64 xX.2.2.1), .val (.int .i64 xX.2.2.2.1), .val (.int .i64 xX.2.2.2.2)])).on []⟩) (fun xX : (Int × List TUnit × Int × Int × Int) => lex_reader_number.k1 xX.1 xX.2.1 xX.2.2.1 xX.2.2.2.1 xX.2.2.2.2) (fun xX s' hr ht => ?_) ?_
  · obtain ⟨out, units, place, whole, fault⟩ := xX
    dsimp only [lex_reader_number.k1] at hr ht
    refine (w_nT ht ?_)
    refine w_seq ?_
    refine A_ops ?_
    refine A_upto 1 ?_
    obtain ⟨r2, eF2, hr⟩ := hr.bind
    refine A_call (out := ?o_eF2) (hp := ?p_eF2) ?c_eF2 ?d_eF2 ?_
    case c_eF2 => (refine lex_reader_take_runs (Tlex_reader.mk units place whole fault) (lex_reader_number_3) (l0) _ _ ?_ ?_ ?_ eF2; (exact (fun os x0 r e => lex_reader_number_3_runs x0 e)); (exact (fun i => by simp [CT])); (simp (disch := (apply Apart.mk; decide)) only [go_sem, Nat.reduceAdd, Nat.reduceLT, Nat.reduceMul, Nat.reduceLeDiff, Int.reduceToNat, Int.reduceLT, Int.reduceLE, ha0, on_atB hl0, lt_add hl0, lt_at hl0, on_updB hl0, on_atU hl0, on_updU hl0, upd_same ha0]))
    case d_eF2 => rfl
    refine w_ops_nil ?_
    refine w_n ?_
    refine w_seq ?_
    refine A_region ?_
    refine w_n ?_
    refine w_ret ?_
    obtain rfl := hD _ hr
    exact (A_endR (A_cut (os' := []) (sl := [(2, .cv (.val (.int .i64 out)))]) (h := (h.upd l0 (.cells [.val (.sl (List.map eUnit r2.2.units)), .val (.int .i64 r2.2.place), .val (.int .i64 r2.2.whole), .val (.int .i64 r2.2.fault)]))) (A_wf hwf hl0)) ⟨rfl, on_nil (A_wf hwf hl0)⟩)
  · refine w_block ?_
    refine w_Loop (fun xX : (Int × Int × List TUnit × Int × Int × Int) => ⟨[(0, .cv (.val (.ptr (some (l0, 0))))), (3, .cv (.val (.int .i64 xX.1))), (4, .cv (.val (.fn 133 [] []))), (5, .cv (.val (.int .i64 xX.2.1)))], (h.upd l0 (.cells [.val (.sl (List.map eUnit xX.2.2.1)), .val (.int .i64 xX.2.2.2.1), .val (.int .i64 xX.2.2.2.2.1), .val (.int .i64 xX.2.2.2.2.2)])).on []⟩) hr (A_cut (A_wf hwf hl0)) (fun W1 xX hr => ?_)
    obtain ⟨out1, i, units1, place1, whole1, fault1⟩ := xX
    dsimp only [lex_reader_number.b1] at hr
    refine w_seq ?_
    obtain ⟨v, vF7, hr⟩ := hr.bind
    refine w_joinR (sj := ⟨[(0, .cv (.val (.ptr (some (l0, 0))))), (3, .cv (.val (.int .i64 out1))), (4, .cv (.val (.fn 133 [] []))), (5, .cv (.val (.int .i64 i))), (20, .cv (.val (.bool v)))], (h.upd l0 (.cells [.val (.sl (List.map eUnit units1)), .val (.int .i64 place1), .val (.int .i64 whole1), .val (.int .i64 fault1)])).on []⟩) (A_ops ?_) ?_
    · have hr := Holds.intro (D := fun z => z = v) vF7 rfl
      refine A_upto 3 ?_
      rcases hr.ite with ⟨cF3, hr⟩ | ⟨cF3, hr⟩
      · refine A_upto 3 ?_
        rcases hr.ite with ⟨cF4, hr⟩ | ⟨cF4, hr⟩
        · refine A_upto 2 ?_
          refine A_off ?_
          refine A_off ?_
          refine A_ops_end ?_
          obtain rfl : _ = v := hr
          exact w_k (A_cut (A_wf hwf hl0))
        · refine A_upto 2 ?_
          obtain ⟨r3, eF5, hr⟩ := hr.bind
          refine A_call (out := ?o_eF5) (hp := ?p_eF5) ?c_eF5 ?d_eF5 ?_
          case c_eF5 => (refine lex_reader_now_runs (Tlex_reader.mk units1 place1 whole1 fault1) (l0) ?_ eF5; exact A_hat)
          case d_eF5 => rfl
          obtain ⟨r4, eF6, hr⟩ := hr.bind
          refine A_call (out := ?o_eF6) (hp := ?p_eF6) ?c_eF6 ?d_eF6 ?_
          case c_eF6 => exact lex_reader_number_2_runs r3 eF6
          case d_eF6 => rfl
          refine A_ops_end ?_
          obtain rfl : _ = v := hr
          exact w_k (A_cut (A_wf hwf hl0))
      · refine A_upto 5 ?_
        refine A_off ?_
        refine A_off ?_
        refine A_ops_end ?_
        obtain rfl : _ = v := hr
        exact w_k (A_cut (A_wf hwf hl0))
    refine A_condH hr (fun cF8 hr => ?_) (fun cF8 hr => ?_)
    · refine w_skip ?_
      refine w_n ?_
      refine w_seq ?_
      refine w_block ?_
      refine w_seq ?_
      refine A_ops ?_
      refine A_upto 2 ?_
      obtain ⟨r5, eF9, hr⟩ := hr.bind
      refine A_call (out := ?o_eF9) (hp := ?p_eF9) ?c_eF9 ?d_eF9 ?_
      case c_eF9 => (refine lex_reader_take_runs (Tlex_reader.mk units1 place1 whole1 fault1) (lex_reader_number_2) (l0) _ _ ?_ ?_ ?_ eF9; (exact (fun os x0 r e => lex_reader_number_2_runs x0 e)); (exact (fun i => by simp [CT])); (simp (disch := (apply Apart.mk; decide)) only [go_sem, Nat.reduceAdd, Nat.reduceLT, Nat.reduceMul, Nat.reduceLeDiff, Int.reduceToNat, Int.reduceLT, Int.reduceLE, ha0, on_atB hl0, lt_add hl0, lt_at hl0, on_updB hl0, on_atU hl0, on_updU hl0, upd_same ha0]))
      case d_eF9 => rfl
      refine A_ops_end ?_
      refine w_n ?_
      refine w_seq ?_
      refine w_seq ?_
      refine A_region ?_
      refine w_n ?_
      refine w_K (D := (Aft W1 D)) (fun xX : Int => ⟨[(0, .cv (.val (.ptr (some (l0, 0))))), (3, .cv (.val (.int .i64 out1))), (4, .cv (.val (.fn 133 [] []))), (5, .cv (.val (.int .i64 i))), (6, .cv (.val (.int .i64 xX)))], (h.upd l0 (.cells [.val (.sl (List.map eUnit r5.2.units)), .val (.int .i64 r5.2.place), .val (.int .i64 r5.2.whole), .val (.int .i64 r5.2.fault)])).on []⟩) (fun xX : Int => lex_reader_number.k2 out1 i r5 xX) (fun xX s' hr ht => ?_) ?_
      · obtain ⟨n, rfl⟩ : ∃ z, z = xX := ⟨xX, rfl⟩
        dsimp only [lex_reader_number.k2] at hr ht
        refine (w_nT ht ?_)
        refine A_region ?_
        refine (w_bn (w_n ?_))
        refine A_region ?_
        exact (w_k ⟨((IntKind.i64.wrap ((IntKind.i64.wrap ((IntKind.i64.wrap (out1 * (16 : Int))) + n)) - (48 : Int))), (IntKind.i64.wrap (i + (1 : Int))), r5.2.units, r5.2.place, r5.2.whole, r5.2.fault), hr, (A_cut (A_wf hwf hl0))⟩)
      · refine A_condH hr (fun cF10 hr => ?_) (fun cF10 hr => ?_)
        · refine A_region ?_
          exact (w_k ⟨(IntKind.i64.wrap (r5.1 - (7 : Int))), hr, (A_cut (A_wf hwf hl0))⟩)
        · refine w_skip ?_
          exact (w_k ⟨r5.1, hr, (A_cut (A_wf hwf hl0))⟩)
    · refine w_exit ?_
      exact (w_te (w_te (w_bx (w_k ⟨(out1, units1, place1, whole1, fault1), (hr).map, (A_cut (A_wf hwf hl0))⟩))))
end Go.Val

/- part LW94 -/
/- (*scansion/lex.reader).letter runs as it is read off. -/
namespace Go.Val
set_option maxRecDepth 20000
open Go.Proofs
theorem lex_reader_letter_runs (r : Tlex_reader) (l0 : Nat) {h : Heap} (ha0 : h.at_ l0 = some (.cells [.val (.sl (List.map eUnit r.units)), .val (.int .i64 r.place), .val (.int .i64 r.whole), .val (.int .i64 r.fault)])) {a : (Int × Tlex_reader)} (e : lex_reader_letter r = some a) :
    Runs CT 94 [.cv (.val (.ptr (some (l0, 0))))] h fun o h' => o = [.cv (.val (.int .i64 a.1))] ∧ h' = (h.upd l0 (.cells [.val (.sl (List.map eUnit a.2.units)), .val (.int .i64 a.2.place), .val (.int .i64 a.2.whole), .val (.int .i64 a.2.fault)])) := by
  refine Runs.start Tryz.f94 _ Tryz.func94 rfl (by rw [Tryz.ntmps94]; simp) (by rfl) (by rfl) (fun hwf hu => ?_)
  have hl0 := (hwf _ _ ha0).1
  have kl0 := locF hl0
  have ku0 := updF hl0 ha0
  obtain ⟨D, hD, hr⟩ : ∃ D : (Int × Tlex_reader) → Prop, (∀ z, D z → z = a) ∧ Holds (lex_reader_letter r) D := ⟨fun z => z = a, fun _ h => h, Holds.intro e rfl⟩
  dsimp only [lex_reader_letter] at hr
  change wpCode _ _ _ _ _ ⟨[(0, .cv (.val (.ptr (some (l0, 0)))))], h.on []⟩
  refine w_seq ?_
  refine A_region ?_
  refine w_n ?_
  refine w_seq ?_
  refine A_ops ?_
  refine A_upto 1 ?_
  obtain ⟨r1, eF1, hr⟩ := hr.bind
  refine A_call (out := ?o_eF1) (hp := ?p_eF1) ?c_eF1 ?d_eF1 ?_
  case c_eF1 => (refine lex_reader_take_runs r (lex_reader_letter_1) (l0) _ _ ?_ ?_ ?_ eF1; (exact (fun os x0 r e => lex_reader_letter_1_runs x0 e)); (exact (fun i => by simp [CT])); (simp (disch := (apply Apart.mk; decide)) only [go_sem, Nat.reduceAdd, Nat.reduceLT, Nat.reduceMul, Nat.reduceLeDiff, Int.reduceToNat, Int.reduceLT, Int.reduceLE, ha0, on_atB hl0, lt_add hl0, lt_at hl0, on_updB hl0, on_atU hl0, on_updU hl0, upd_same ha0]))
  case d_eF1 => rfl
  refine A_ops_end ?_
  refine w_n ?_
  refine w_seq ?_
  refine w_joinR (sj := ⟨[(0, .cv (.val (.ptr (some (l0, 0))))), (3, .cv (.val (.int .i64 r1.1))), (14, .cv (.val (.bool ((r1.1 != (92 : Int)) || (r1.2.fault != (0 : Int))))))], (h.upd l0 (.cells [.val (.sl (List.map eUnit r1.2.units)), .val (.int .i64 r1.2.place), .val (.int .i64 r1.2.whole), .val (.int .i64 r1.2.fault)])).on []⟩) (A_ops ?_) ?_
  · refine A_upto 3 ?_
    rcases Bool.eq_false_or_eq_true (r1.1 != (92 : Int)) with cF2 | cF2
    · refine A_ops_end ?_
      exact w_k (A_cut (A_wf hwf hl0))
    · refine A_ops_end ?_
      exact w_k (A_cut (A_wf hwf hl0))
  refine A_condH hr (fun cF3 hr => ?_) (fun cF3 hr => ?_)
  · refine w_seq ?_
    refine A_region ?_
    refine w_n ?_
    refine w_ret ?_
    obtain rfl := hD _ hr
    exact (w_tr (A_endR (A_cut (os' := []) (sl := [(2, .cv (.val (.int .i64 r1.1)))]) (h := (h.upd l0 (.cells [.val (.sl (List.map eUnit r1.2.units)), .val (.int .i64 r1.2.place), .val (.int .i64 r1.2.whole), .val (.int .i64 r1.2.fault)]))) (A_wf hwf hl0)) ⟨rfl, on_nil (A_wf hwf hl0)⟩))
  · refine w_skip ?_
    refine w_n ?_
    refine w_seq ?_
    refine A_ops ?_
    refine A_upto 1 ?_
    obtain ⟨r2, eF4, hr⟩ := hr.bind
    refine A_call (out := ?o_eF4) (hp := ?p_eF4) ?c_eF4 ?d_eF4 ?_
    case c_eF4 => (refine lex_reader_take_runs r1.2 (lex_reader_letter_2) (l0) _ _ ?_ ?_ ?_ eF4; (exact (fun os x0 r e => lex_reader_letter_2_runs x0 e)); (exact (fun i => by simp [CT])); (simp (disch := (apply Apart.mk; decide)) only [go_sem, Nat.reduceAdd, Nat.reduceLT, Nat.reduceMul, Nat.reduceLeDiff, Int.reduceToNat, Int.reduceLT, Int.reduceLE, ha0, on_atB hl0, lt_add hl0, lt_at hl0, on_updB hl0, on_atU hl0, on_updU hl0, upd_same ha0]))
    case d_eF4 => rfl
    refine A_ops_end ?_
    refine w_n ?_
    refine w_seq ?_
    refine w_seq ?_
    refine A_region ?_
    refine w_n ?_
    refine A_condH hr (fun cF5 hr => ?_) (fun cF5 hr => ?_)
    · refine w_seq ?_
      refine A_region ?_
      refine w_n ?_
      refine w_ret ?_
      obtain rfl := hD _ hr
      exact (w_tr (A_endR (A_cut (os' := []) (sl := [(2, .cv (.val (.int .i64 r2.1)))]) (h := (h.upd l0 (.cells [.val (.sl (List.map eUnit r2.2.units)), .val (.int .i64 r2.2.place), .val (.int .i64 r2.2.whole), .val (.int .i64 r2.2.fault)]))) (A_wf hwf hl0)) ⟨rfl, on_nil (A_wf hwf hl0)⟩))
    · refine w_skip ?_
      refine w_n ?_
      refine w_seq ?_
      refine A_ops ?_
      refine A_upto 1 ?_
      obtain ⟨r3, eF6, hr⟩ := hr.bind
      refine A_call (out := ?o_eF6) (hp := ?p_eF6) ?c_eF6 ?d_eF6 ?_
      case c_eF6 => (refine lex_reader_number_runs r2.2 (l0) ?_ eF6; exact A_hat)
      case d_eF6 => rfl
      refine A_ops_end ?_
      refine w_n ?_
      refine w_ret ?_
      obtain rfl := hD _ hr
      exact (A_endR (A_cut (os' := []) (sl := [(2, .cv (.val (.int .i64 r3.1)))]) (h := (h.upd l0 (.cells [.val (.sl (List.map eUnit r3.2.units)), .val (.int .i64 r3.2.place), .val (.int .i64 r3.2.whole), .val (.int .i64 r3.2.fault)]))) (A_wf hwf hl0)) ⟨rfl, on_nil (A_wf hwf hl0)⟩)
end Go.Val

/- part LW71 -/
/- (*scansion/lex.reader).set runs as it is read off. -/
namespace Go.Val
set_option maxRecDepth 20000
open Go.Proofs
theorem lex_reader_set_runs (r : Tlex_reader) (l0 : Nat) {h : Heap} (ha0 : h.at_ l0 = some (.cells [.val (.sl (List.map eUnit r.units)), .val (.int .i64 r.place), .val (.int .i64 r.whole), .val (.int .i64 r.fault)])) {a : (List TRange × Tlex_reader)} (e : lex_reader_set r = some a) :
    Runs CT 71 [.cv (.val (.ptr (some (l0, 0))))] h fun o h' => o = [.cv (.val (.sl (List.map eRange a.1)))] ∧ h' = (h.upd l0 (.cells [.val (.sl (List.map eUnit a.2.units)), .val (.int .i64 a.2.place), .val (.int .i64 a.2.whole), .val (.int .i64 a.2.fault)])) := by
  refine Runs.start Tryz.f71 _ Tryz.func71 rfl (by rw [Tryz.ntmps71]; simp) (by rfl) (by rfl) (fun hwf hu => ?_)
  have hl0 := (hwf _ _ ha0).1
  have kl0 := locF hl0
  have ku0 := updF hl0 ha0
  obtain ⟨D, hD, hr⟩ : ∃ D : (List TRange × Tlex_reader) → Prop, (∀ z, D z → z = a) ∧ Holds (lex_reader_set r) D := ⟨fun z => z = a, fun _ h => h, Holds.intro e rfl⟩
  dsimp only [lex_reader_set] at hr
  change wpCode _ _ _ _ _ ⟨[(0, .cv (.val (.ptr (some (l0, 0)))))], h.on []⟩
  refine w_seq ?_
  refine A_region ?_
  refine w_n ?_
  refine w_seq ?_
  refine A_region ?_
  refine w_n ?_
  refine w_seq ?_
  refine w_K (D := D) (fun xX : (List TRange × List TUnit × Int × Int × Int) => ⟨[(0, .cv (.val (.ptr (some (l0, 0))))), (3, .cv (.row 74 (List.map eRange xX.1)))], (h.upd l0 (.cells [.val (.sl (List.map eUnit xX.2.1)), .val (.int .i64 xX.2.2.1), .val (.int .i64 xX.2.2.2.1), .val (.int .i64 xX.2.2.2.2)])).on []⟩) (fun xX : (List TRange × List TUnit × Int × Int × Int) => lex_reader_set.k1 xX.1 xX.2.1 xX.2.2.1 xX.2.2.2.1 xX.2.2.2.2) (fun xX s' hr ht => ?_) ?_
  · obtain ⟨l, units, place, whole, fault⟩ := xX
    dsimp only [lex_reader_set.k1] at hr ht
    refine (w_nT ht ?_)
    refine w_seq ?_
    refine A_region ?_
    refine w_n ?_
    refine w_seq ?_
    refine A_ops ?_
    refine A_upto 1 ?_
    obtain ⟨r1, eF1, hr⟩ := hr.bind
    refine A_call (out := ?o_eF1) (hp := ?p_eF1) ?c_eF1 ?d_eF1 ?_
    case c_eF1 => exact ranges_Make_runs l eF1
    case d_eF1 => rfl
    refine A_ops_end ?_
    refine w_n ?_
    refine w_seq ?_
    refine A_region ?_
    refine w_n ?_
    refine w_ret ?_
    obtain rfl := hD _ hr
    exact (A_endR (A_cut (os' := []) (sl := [(2, .cv (.val (.sl (List.map eRange r1.1))))]) (h := (h.upd l0 (.cells [.val (.sl (List.map eUnit units)), .val (.int .i64 (IntKind.i64.wrap (place + (1 : Int)))), .val (.int .i64 whole), .val (.int .i64 fault)]))) (A_wf hwf hl0)) ⟨rfl, on_nil (A_wf hwf hl0)⟩)
  · refine w_block ?_
    refine w_Loop (fun xX : (List TRange × List TUnit × Int × Int × Int) => ⟨[(0, .cv (.val (.ptr (some (l0, 0))))), (3, .cv (.row 74 (List.map eRange xX.1)))], (h.upd l0 (.cells [.val (.sl (List.map eUnit xX.2.1)), .val (.int .i64 xX.2.2.1), .val (.int .i64 xX.2.2.2.1), .val (.int .i64 xX.2.2.2.2)])).on []⟩) hr (A_cut (A_wf hwf hl0)) (fun W1 xX hr => ?_)
    obtain ⟨l1, units1, place1, whole1, fault1⟩ := xX
    dsimp only [lex_reader_set.b1] at hr
    refine w_seq ?_
    refine w_seq ?_
    refine A_ops ?_
    refine A_upto 1 ?_
    obtain ⟨r2, eF2, hr⟩ := hr.bind
    refine A_call (out := ?o_eF2) (hp := ?p_eF2) ?c_eF2 ?d_eF2 ?_
    case c_eF2 => (refine lex_reader_now_runs (Tlex_reader.mk units1 place1 whole1 fault1) (l0) ?_ eF2; exact A_hat)
    case d_eF2 => rfl
    refine A_ops_end ?_
    refine w_n ?_
    refine A_condH hr (fun cF3 hr => ?_) (fun cF3 hr => ?_)
    · refine w_skip ?_
      refine w_n ?_
      refine w_block ?_
      refine w_seq ?_
      refine A_region ?_
      refine w_n ?_
      refine w_seq ?_
      refine A_ops ?_
      refine A_upto 1 ?_
      obtain ⟨r3, eF4, hr⟩ := hr.bind
      refine A_call (out := ?o_eF4) (hp := ?p_eF4) ?c_eF4 ?d_eF4 ?_
      case c_eF4 => (refine lex_reader_letter_runs (Tlex_reader.mk units1 place1 whole1 fault1) (l0) ?_ eF4; exact A_hat)
      case d_eF4 => rfl
      refine A_ops_end ?_
      refine w_n ?_
      refine w_seq ?_
      refine A_region ?_
      refine w_n ?_
      refine w_seq ?_
      obtain ⟨v, vF7, hr⟩ := hr.bind
      refine w_joinR (sj := ⟨[(0, .cv (.val (.ptr (some (l0, 0))))), (3, .cv (.row 74 (List.map eRange l1))), (4, .cv (.val (.int .i64 place1))), (5, .cv (.val (.ptr (some (h.n + 0, 0))))), (30, .cv (.val (.bool v)))], (h.upd l0 (.cells [.val (.sl (List.map eUnit r3.2.units)), .val (.int .i64 r3.2.place), .val (.int .i64 r3.2.whole), .val (.int .i64 r3.2.fault)])).on [some (.cells [.val (.int .i64 r3.1), .val (.int .i64 r3.1)])]⟩) (A_ops ?_) ?_
      · have hr := Holds.intro (D := fun z => z = v) vF7 rfl
        refine A_upto 1 ?_
        obtain ⟨r4, eF5, hr⟩ := hr.bind
        refine A_call (out := ?o_eF5) (hp := ?p_eF5) ?c_eF5 ?d_eF5 ?_
        case c_eF5 => (refine lex_reader_now_runs r3.2 (l0) ?_ eF5; exact A_hat)
        case d_eF5 => rfl
        refine A_upto 2 ?_
        rcases hr.ite with ⟨cF6, hr⟩ | ⟨cF6, hr⟩
        · refine A_ops_end ?_
          obtain rfl : _ = v := hr
          exact w_k (A_cut (A_wf hwf hl0))
        · refine A_ops_end ?_
          obtain rfl : _ = v := hr
          exact w_k (A_cut (A_wf hwf hl0))
      refine w_K (D := (Aft W1 D)) (fun xX : (Int × List TUnit × Int × Int × Int) => ⟨[(0, .cv (.val (.ptr (some (l0, 0))))), (3, .cv (.row 74 (List.map eRange l1))), (4, .cv (.val (.int .i64 place1))), (5, .cv (.val (.ptr (some (h.n + 0, 0)))))], (h.upd l0 (.cells [.val (.sl (List.map eUnit xX.2.1)), .val (.int .i64 xX.2.2.1), .val (.int .i64 xX.2.2.2.1), .val (.int .i64 xX.2.2.2.2)])).on [some (.cells [.val (.int .i64 r3.1), .val (.int .i64 xX.1)])]⟩) (fun xX : (Int × List TUnit × Int × Int × Int) => lex_reader_set.k2 l1 place1 r3 xX.1 xX.2.1 xX.2.2.1 xX.2.2.2.1 xX.2.2.2.2) (fun xX s' hr ht => ?_) ?_
      · obtain ⟨High, units2, place2, whole2, fault2⟩ := xX
        dsimp only [lex_reader_set.k2] at hr ht
        refine (w_nT ht ?_)
        refine w_seq ?_
        refine w_block ?_
        refine w_seq ?_
        refine A_region ?_
        refine w_n ?_
        refine A_condH hr (fun cF8 hr => ?_) (fun cF8 hr => ?_)
        · refine w_seq ?_
          refine A_region ?_
          refine w_n ?_
          refine w_ret ?_
          obtain rfl := hD _ hr
          exact (w_br (w_tr (w_br (w_tr (w_br (w_tr (w_tr (A_endR (A_cut (os' := []) (sl := [(2, .cv (.val (.sl (List.map eRange ([] : List TRange)))))]) (h := (h.upd l0 (.cells [.val (.sl (List.map eUnit units2)), .val (.int .i64 place2), .val (.int .i64 whole2), .val (.int .i64 fault2)]))) (A_wf hwf hl0)) ⟨rfl, on_nil (A_wf hwf hl0)⟩))))))))
        · refine w_joinR (sj := ⟨[(0, .cv (.val (.ptr (some (l0, 0))))), (3, .cv (.row 74 (List.map eRange l1))), (4, .cv (.val (.int .i64 place1))), (5, .cv (.val (.ptr (some (h.n + 0, 0))))), (47, .cv (.val (.bool ((decide (r3.1 > High)) || (decide (High > (1114111 : Int)))))))], (h.upd l0 (.cells [.val (.sl (List.map eUnit units2)), .val (.int .i64 place2), .val (.int .i64 whole2), .val (.int .i64 fault2)])).on [some (.cells [.val (.int .i64 r3.1), .val (.int .i64 High)])]⟩) (A_ops ?_) ?_
          · refine A_upto 6 ?_
            rcases Bool.eq_false_or_eq_true (decide (r3.1 > High)) with cF9 | cF9
            · refine A_ops_end ?_
              exact w_k (A_cut (A_wf hwf hl0))
            · refine A_ops_end ?_
              exact w_k (A_cut (A_wf hwf hl0))
          refine A_condH hr (fun cF10 hr => ?_) (fun cF10 hr => ?_)
          · refine w_seq ?_
            refine A_region ?_
            refine w_n ?_
            refine w_seq ?_
            refine A_region ?_
            refine w_n ?_
            refine w_ret ?_
            obtain rfl := hD _ hr
            exact (w_br (w_tr (w_br (w_tr (w_br (w_tr (w_tr (A_endR (A_cut (os' := []) (sl := [(2, .cv (.val (.sl (List.map eRange ([] : List TRange)))))]) (h := (h.upd l0 (.cells [.val (.sl (List.map eUnit units2)), .val (.int .i64 place1), .val (.int .i64 whole2), .val (.int .i64 (1 : Int))]))) (A_wf hwf hl0)) ⟨rfl, on_nil (A_wf hwf hl0)⟩))))))))
          · refine w_skip ?_
            refine (w_bn (w_n ?_))
            obtain ⟨nF11, hr⟩ := hr.room
            refine A_region ?_
            exact (w_bn (w_k ⟨((l1 ++ ([(TRange.mk r3.1 High)])), units2, place2, whole2, fault2), hr, (A_cut (A_wf hwf hl0))⟩))
      · refine A_condH hr (fun cF12 hr => ?_) (fun cF12 hr => ?_)
        · refine w_seq ?_
          refine A_region ?_
          refine w_n ?_
          refine A_ops ?_
          refine A_upto 1 ?_
          obtain ⟨r5, eF13, hr⟩ := hr.bind
          refine A_call (out := ?o_eF13) (hp := ?p_eF13) ?c_eF13 ?d_eF13 ?_
          case c_eF13 => (refine lex_reader_letter_runs (Tlex_reader.mk r3.2.units (IntKind.i64.wrap (r3.2.place + (1 : Int))) r3.2.whole r3.2.fault) (l0) ?_ eF13; exact A_hat)
          case d_eF13 => rfl
          refine A_ops_end ?_
          exact (w_k ⟨(r5.1, r5.2.units, r5.2.place, r5.2.whole, r5.2.fault), hr, (A_cut (A_wf hwf hl0))⟩)
        · refine w_skip ?_
          exact (w_k ⟨(r3.1, r3.2.units, r3.2.place, r3.2.whole, r3.2.fault), hr, (A_cut (A_wf hwf hl0))⟩)
    · refine w_exit ?_
      exact (w_te (w_te (w_bx (w_k ⟨(l1, units1, place1, whole1, fault1), (hr).map, (A_cut (A_wf hwf hl0))⟩))))
end Go.Val

/- part LW72 -/
/- scansion/lex.goes runs as it is read off. -/
namespace Go.Val
set_option maxRecDepth 20000
open Go.Proofs
theorem lex_goes_runs (r : Int) {h : Heap} {a : Bool} (e : lex_goes r = some a) :
    Runs CT 72 [.cv (.val (.int .i64 r))] h fun o h' => o = [.cv (.val (.bool a))] ∧ h' = h := by
  refine Runs.start Tryz.f72 _ Tryz.func72 rfl (by rw [Tryz.ntmps72]; simp) (by rfl) (by rfl) (fun hwf hu => ?_)
  obtain ⟨D, hD, hr⟩ : ∃ D : Bool → Prop, (∀ z, D z → z = a) ∧ Holds (lex_goes r) D := ⟨fun z => z = a, fun _ h => h, Holds.intro e rfl⟩
  dsimp only [lex_goes] at hr
  change wpCode _ _ _ _ _ ⟨[(0, .cv (.val (.int .i64 r)))], h.on []⟩
  refine w_seq ?_
  refine A_region ?_
  refine w_n ?_
  obtain ⟨v, vF5, hr⟩ := hr.bind
  refine w_joinR (sj := ⟨[(2, .cv (.val (.bool v)))], h.on []⟩) (A_ops ?_) ?_
  · have hr := Holds.intro (D := fun z => z = v) vF5 rfl
    refine A_upto 1 ?_
    obtain ⟨r1, eF1, hr⟩ := hr.bind
    refine A_call (out := ?o_eF1) (hp := ?p_eF1) ?c_eF1 ?d_eF1 ?_
    case c_eF1 => exact lex_lower_runs r eF1
    case d_eF1 => rfl
    refine A_upto 1 ?_
    rcases hr.ite with ⟨cF2, hr⟩ | ⟨cF2, hr⟩
    · refine A_ops_end ?_
      obtain rfl : _ = v := hr
      exact w_k (A_cut hwf)
    · refine A_upto 3 ?_
      rcases hr.ite with ⟨cF3, hr⟩ | ⟨cF3, hr⟩
      · refine A_upto 5 ?_
        rcases hr.ite with ⟨cF4, hr⟩ | ⟨cF4, hr⟩
        · refine A_ops_end ?_
          obtain rfl : _ = v := hr
          exact w_k (A_cut hwf)
        · refine A_ops_end ?_
          obtain rfl : _ = v := hr
          exact w_k (A_cut hwf)
      · refine A_ops_end ?_
        obtain rfl : _ = v := hr
        exact w_k (A_cut hwf)
  refine w_ret ?_
  obtain rfl := hD _ hr
  exact (A_endR (A_cut (os' := []) (sl := [(2, .cv (.val (.bool v)))]) hwf) ⟨rfl, on_nil hwf⟩)
end Go.Val

/- part LW46 -/
/- (*scansion/lex.reader).token runs as it is read off. -/
namespace Go.Val
set_option maxRecDepth 20000
open Go.Proofs
theorem lex_reader_token_runs (r : Tlex_reader) (b : List UInt8) (l0 : Nat) {h : Heap} (ha0 : h.at_ l0 = some (.cells [.val (.sl (List.map eUnit r.units)), .val (.int .i64 r.place), .val (.int .i64 r.whole), .val (.int .i64 r.fault)])) {a : (TToken × Tlex_reader)} (e : lex_reader_token r b = some a) :
    Runs CT 46 [.cv (.val (.ptr (some (l0, 0)))), .cv (.val (.sl (List.map eU b)))] h fun o h' => o = [.cv (.val (.agg [.int .i64 a.1.Kind, .int .i64 a.1.At, .str (bs a.1.Text), .sl (List.map eRange a.1.Set)]))] ∧ h' = (h.upd l0 (.cells [.val (.sl (List.map eUnit a.2.units)), .val (.int .i64 a.2.place), .val (.int .i64 a.2.whole), .val (.int .i64 a.2.fault)])) := by
  refine Runs.start Tryz.f46 _ Tryz.func46 rfl (by rw [Tryz.ntmps46]; simp) (by rfl) (by rfl) (fun hwf hu => ?_)
  have hl0 := (hwf _ _ ha0).1
  have kl0 := locF hl0
  have ku0 := updF hl0 ha0
  obtain ⟨D, hD, hr⟩ : ∃ D : (TToken × Tlex_reader) → Prop, (∀ z, D z → z = a) ∧ Holds (lex_reader_token r b) D := ⟨fun z => z = a, fun _ h => h, Holds.intro e rfl⟩
  dsimp only [lex_reader_token] at hr
  change wpCode _ _ _ _ _ ⟨[(0, .cv (.val (.ptr (some (l0, 0))))), (1, .cv (.val (.sl (List.map eU b))))], h.on []⟩
  refine w_seq ?_
  refine A_region ?_
  refine w_n ?_
  refine w_seq ?_
  refine A_ops ?_
  refine A_upto 1 ?_
  obtain ⟨r1, eF1, hr⟩ := hr.bind
  refine A_call (out := ?o_eF1) (hp := ?p_eF1) ?c_eF1 ?d_eF1 ?_
  case c_eF1 => (refine lex_reader_at_runs r (l0) ?_ eF1; exact A_hat)
  case d_eF1 => rfl
  refine A_ops_end ?_
  refine w_n ?_
  refine w_seq ?_
  refine A_ops ?_
  refine A_upto 1 ?_
  obtain ⟨r2, eF2, hr⟩ := hr.bind
  refine A_call (out := ?o_eF2) (hp := ?p_eF2) ?c_eF2 ?d_eF2 ?_
  case c_eF2 => (refine lex_reader_take_runs r (lex_reader_token_1) (l0) _ _ ?_ ?_ ?_ eF2; (exact (fun os x0 r e => lex_reader_token_1_runs x0 e)); (exact (fun i => by simp [CT])); (simp (disch := (apply Apart.mk; decide)) only [go_sem, Nat.reduceAdd, Nat.reduceLT, Nat.reduceMul, Nat.reduceLeDiff, Int.reduceToNat, Int.reduceLT, Int.reduceLE, ha0, on_atB hl0, lt_add hl0, lt_at hl0, on_updB hl0, on_atU hl0, on_updU hl0, upd_same ha0]))
  case d_eF2 => rfl
  refine A_ops_end ?_
  refine w_n ?_
  refine w_seq ?_
  refine w_K (D := D) (fun xX : (Int × List TUnit × Int × Int × Int) => ⟨[(0, .cv (.val (.ptr (some (l0, 0))))), (1, .cv (.val (.sl (List.map eU b)))), (4, .cv (.val (.ptr (some (h.n + 0, 0))))), (5, .cv (.val (.ptr (some (h.n + 1, 0)))))], (h.upd l0 (.cells [.val (.sl (List.map eUnit xX.2.1)), .val (.int .i64 xX.2.2.1), .val (.int .i64 xX.2.2.2.1), .val (.int .i64 xX.2.2.2.2)])).on [some (.cells [.val (.int .i64 (0 : Int)), .val (.int .i64 (0 : Int)), .val (.str (bs ([] : Str))), .nil]), some (.cells [.val (.int .i64 xX.1), .val (.int .i64 r1), .val (.str (bs ([] : Str))), .nil])]⟩) (fun xX : (Int × List TUnit × Int × Int × Int) => lex_reader_token.k1 b r1 xX.1 xX.2.1 xX.2.2.1 xX.2.2.2.1 xX.2.2.2.2) (fun xX s' hr ht => ?_) ?_
  · obtain ⟨Kind, units, place, whole, fault⟩ := xX
    dsimp only [lex_reader_token.k1] at hr ht
    refine (w_nT ht ?_)
    refine w_seq ?_
    refine w_drawn [0, 1, 2, 3, 4, 5, 6, 7, 8] (by rfl) ?_
    refine A_prun [0, 1, 2, 3] [3, 2, 1, 0] ?_
    obtain ⟨r3, eF3, hr⟩ := hr.bind
    refine A_pcall [2, 1, 0] (out := ?o_eF3) (hp := ?p_eF3) ?c_eF3 ?d_eF3 ?_
    case c_eF3 => (refine lex_reader_at_runs (Tlex_reader.mk units place whole fault) (l0) ?_ eF3; exact A_hat)
    case d_eF3 => rfl
    obtain ⟨nF4, nF5, nF6, nF7, hr⟩ := hr.cut
    refine A_prun [5, 6, 7] [7, 6, 5, 2, 1, 0] ?_
    refine A_pop [] ?_
    refine A_pend ?_
    refine w_n ?_
    refine w_seq ?_
    refine A_region ?_
    refine w_n ?_
    refine w_ret ?_
    obtain rfl := hD _ hr
    exact (w_endRD (A_cut (os' := [some (.cells [.val (.int .i64 (TToken.mk Kind r1 (List.drop (Int.toNat r1) (List.take (Int.toNat r3) b)) []).Kind), .val (.int .i64 (TToken.mk Kind r1 (List.drop (Int.toNat r1) (List.take (Int.toNat r3) b)) []).At), .val (.str (bs (TToken.mk Kind r1 (List.drop (Int.toNat r1) (List.take (Int.toNat r3) b)) []).Text)), .val (.sl (List.map eRange (TToken.mk Kind r1 (List.drop (Int.toNat r1) (List.take (Int.toNat r3) b)) []).Set))])]) (sl := [(4, .cv (.val (.ptr (some (h.n + 0, 0)))))]) (h := (h.upd l0 (.cells [.val (.sl (List.map eUnit units)), .val (.int .i64 place), .val (.int .i64 whole), .val (.int .i64 fault)]))) (A_wf hwf hl0)) (by simp (disch := (apply Apart.mk; decide)) only [go_sem, Nat.reduceAdd, Nat.reduceLT, Nat.reduceMul, Nat.reduceLeDiff, Int.reduceToNat, Int.reduceLT, Int.reduceLE, ha0, on_atB hl0, lt_add hl0, lt_at hl0, on_updB hl0, on_atU hl0, on_updU hl0, upd_same ha0, Tryz.results46, results_data CT_gives46, resCell, resVal.eq_2, loadOp_sv]) (Drops.on (h := (h.upd l0 (.cells [.val (.sl (List.map eUnit units)), .val (.int .i64 place), .val (.int .i64 whole), .val (.int .i64 fault)]))) (os := [some (.cells [.val (.int .i64 (TToken.mk Kind r1 (List.drop (Int.toNat r1) (List.take (Int.toNat r3) b)) []).Kind), .val (.int .i64 (TToken.mk Kind r1 (List.drop (Int.toNat r1) (List.take (Int.toNat r3) b)) []).At), .val (.str (bs (TToken.mk Kind r1 (List.drop (Int.toNat r1) (List.take (Int.toNat r3) b)) []).Text)), .val (.sl (List.map eRange (TToken.mk Kind r1 (List.drop (Int.toNat r1) (List.take (Int.toNat r3) b)) []).Set))])]) (os' := []) (A_wf hwf hl0) (Nat.le_refl _) (by simp (disch := (apply Apart.mk; decide)) only [go_sem, Nat.reduceAdd, Nat.reduceLT, Nat.reduceMul, Nat.reduceLeDiff, Int.reduceToNat, Int.reduceLT, Int.reduceLE, ha0, on_atB hl0, lt_add hl0, lt_at hl0, on_updB hl0, on_atU hl0, on_updU hl0, upd_same ha0])) ⟨rfl, on_nil (h := (h.upd l0 (.cells [.val (.sl (List.map eUnit units)), .val (.int .i64 place), .val (.int .i64 whole), .val (.int .i64 fault)]))) (A_wf hwf hl0)⟩)
  · refine w_block ?_
    refine w_seq ?_
    refine A_region ?_
    refine w_n ?_
    refine A_condH hr (fun cF8 hr => ?_) (fun cF8 hr => ?_)
    · refine w_seq ?_
      refine A_ops ?_
      refine A_upto 1 ?_
      obtain ⟨r4, eF9, hr⟩ := hr.bind
      refine A_call (out := ?o_eF9) (hp := ?p_eF9) ?c_eF9 ?d_eF9 ?_
      case c_eF9 => (refine lex_reader_set_runs r2.2 (l0) ?_ eF9; exact A_hat)
      case d_eF9 => rfl
      refine A_ops_end ?_
      refine w_n ?_
      refine w_seq ?_
      refine A_region ?_
      refine w_n ?_
      refine w_ret ?_
      obtain rfl := hD _ hr
      exact (w_br (w_tr (w_tr (w_endRD (A_cut (os' := [some (.cells [.val (.int .i64 (TToken.mk (3 : Int) r1 ([] : Str) r4.1).Kind), .val (.int .i64 (TToken.mk (3 : Int) r1 ([] : Str) r4.1).At), .val (.str (bs (TToken.mk (3 : Int) r1 ([] : Str) r4.1).Text)), .val (.sl (List.map eRange (TToken.mk (3 : Int) r1 ([] : Str) r4.1).Set))])]) (sl := [(4, .cv (.val (.ptr (some (h.n + 0, 0)))))]) (h := (h.upd l0 (.cells [.val (.sl (List.map eUnit r4.2.units)), .val (.int .i64 r4.2.place), .val (.int .i64 r4.2.whole), .val (.int .i64 r4.2.fault)]))) (A_wf hwf hl0)) (by simp (disch := (apply Apart.mk; decide)) only [go_sem, Nat.reduceAdd, Nat.reduceLT, Nat.reduceMul, Nat.reduceLeDiff, Int.reduceToNat, Int.reduceLT, Int.reduceLE, ha0, on_atB hl0, lt_add hl0, lt_at hl0, on_updB hl0, on_atU hl0, on_updU hl0, upd_same ha0, Tryz.results46, results_data CT_gives46, resCell, resVal.eq_2, loadOp_sv, cF8]) (Drops.on (h := (h.upd l0 (.cells [.val (.sl (List.map eUnit r4.2.units)), .val (.int .i64 r4.2.place), .val (.int .i64 r4.2.whole), .val (.int .i64 r4.2.fault)]))) (os := [some (.cells [.val (.int .i64 (TToken.mk (3 : Int) r1 ([] : Str) r4.1).Kind), .val (.int .i64 (TToken.mk (3 : Int) r1 ([] : Str) r4.1).At), .val (.str (bs (TToken.mk (3 : Int) r1 ([] : Str) r4.1).Text)), .val (.sl (List.map eRange (TToken.mk (3 : Int) r1 ([] : Str) r4.1).Set))])]) (os' := []) (A_wf hwf hl0) (Nat.le_refl _) (by simp (disch := (apply Apart.mk; decide)) only [go_sem, Nat.reduceAdd, Nat.reduceLT, Nat.reduceMul, Nat.reduceLeDiff, Int.reduceToNat, Int.reduceLT, Int.reduceLE, ha0, on_atB hl0, lt_add hl0, lt_at hl0, on_updB hl0, on_atU hl0, on_updU hl0, upd_same ha0, cF8])) ⟨rfl, on_nil (h := (h.upd l0 (.cells [.val (.sl (List.map eUnit r4.2.units)), .val (.int .i64 r4.2.place), .val (.int .i64 r4.2.whole), .val (.int .i64 r4.2.fault)]))) (A_wf hwf hl0)⟩))))
    · refine w_seq ?_
      refine A_ops ?_
      refine A_upto 1 ?_
      obtain ⟨r5, eF10, hr⟩ := hr.bind
      refine A_call (out := ?o_eF10) (hp := ?p_eF10) ?c_eF10 ?d_eF10 ?_
      case c_eF10 => exact lex_lower_runs r2.1 eF10
      case d_eF10 => rfl
      refine A_ops_end ?_
      refine w_n ?_
      refine A_condH hr (fun cF11 hr => ?_) (fun cF11 hr => ?_)
      · refine w_seq ?_
        refine A_region ?_
        refine w_n ?_
        refine A_ops ?_
        refine A_upto 1 ?_
        obtain ⟨r6, eF12, hr⟩ := hr.bind
        refine A_call (out := ?o_eF12) (hp := ?p_eF12) ?c_eF12 ?d_eF12 ?_
        case c_eF12 => (refine lex_reader_skip_runs r2.2 (lex_goes) (l0) _ _ ?_ ?_ ?_ eF12; (exact (fun os x0 r e => lex_goes_runs x0 e)); (exact (fun i => by simp [CT])); (simp (disch := (apply Apart.mk; decide)) only [go_sem, Nat.reduceAdd, Nat.reduceLT, Nat.reduceMul, Nat.reduceLeDiff, Int.reduceToNat, Int.reduceLT, Int.reduceLE, ha0, on_atB hl0, lt_add hl0, lt_at hl0, on_updB hl0, on_atU hl0, on_updU hl0, upd_same ha0]))
        case d_eF12 => rfl
        refine w_ops_nil ?_
        exact (w_bn (w_k ⟨((1 : Int), r6.units, r6.place, r6.whole, r6.fault), hr, (A_cut (A_wf hwf hl0))⟩))
      · refine A_region ?_
        exact (w_bn (w_k ⟨((2 : Int), r2.2.units, r2.2.place, r2.2.whole, r2.2.fault), hr, (A_cut (A_wf hwf hl0))⟩))
end Go.Val

/- part LW22 -/
/- scansion/lex.Tokens runs as it is read off. -/
namespace Go.Val
set_option maxRecDepth 20000
open Go.Proofs
theorem lex_Tokens_runs (b : List UInt8) {h : Heap} {a : (List TToken × Int × Int)} (e : lex_Tokens b = some a) :
    Runs CT 22 [.cv (.val (.sl (List.map eU b)))] h fun o h' => o = [.cv (.val (.sl (List.map eToken a.1))), .cv (.val (.int .i64 a.2.1)), .cv (.val (.int .i64 a.2.2))] ∧ h' = h := by
  refine Runs.start Tryz.f22 _ Tryz.func22 rfl (by rw [Tryz.ntmps22]; simp) (by rfl) (by rfl) (fun hwf hu => ?_)
  obtain ⟨D, hD, hr⟩ : ∃ D : (List TToken × Int × Int) → Prop, (∀ z, D z → z = a) ∧ Holds (lex_Tokens b) D := ⟨fun z => z = a, fun _ h => h, Holds.intro e rfl⟩
  dsimp only [lex_Tokens] at hr
  change wpCode _ _ _ _ _ ⟨[(0, .cv (.val (.sl (List.map eU b))))], h.on []⟩
  refine w_seq ?_
  refine A_region ?_
  refine w_n ?_
  refine w_seq ?_
  refine w_seq ?_
  refine A_region ?_
  refine w_n ?_
  refine A_condH hr (fun cF1 hr => ?_) (fun cF1 hr => ?_)
  · refine w_seq ?_
    refine A_region ?_
    refine w_n ?_
    refine w_ret ?_
    obtain rfl := hD _ hr
    exact (w_tr (A_endR (A_cut (os' := []) (sl := [(2, .cv (.val (.sl (List.map eToken ([] : List TToken))))), (3, .cv (.val (.int .i64 (0 : Int)))), (4, .cv (.val (.int .i64 (3 : Int))))]) hwf) ⟨rfl, on_nil hwf⟩))
  · refine w_skip ?_
    refine w_n ?_
    refine w_seq ?_
    refine A_ops ?_
    refine A_upto 1 ?_
    obtain ⟨r, eF2, hr⟩ := hr.bind
    refine A_call (out := ?o_eF2) (hp := ?p_eF2) ?c_eF2 ?d_eF2 ?_
    case c_eF2 => exact utf_Decode_runs b eF2
    case d_eF2 => rfl
    refine A_ops_end ?_
    refine w_n ?_
    refine w_seq ?_
    refine A_region ?_
    refine w_n ?_
    refine w_seq ?_
    refine w_seq ?_
    refine A_ops ?_
    refine A_upto 1 ?_
    obtain ⟨r1, eF3, hr⟩ := hr.bind
    refine A_call (out := ?o_eF3) (hp := ?p_eF3) ?c_eF3 ?d_eF3 ?_
    case c_eF3 => (refine lex_reader_blank_runs (Tlex_reader.mk r (0 : Int) (b.length : Int) (0 : Int)) (h.n + 0) ?_ eF3; (simp (disch := (apply Apart.mk; decide)) only [go_sem, Nat.reduceAdd, Nat.reduceLT, Nat.reduceMul, Nat.reduceLeDiff, Int.reduceToNat, Int.reduceLT, Int.reduceLE]))
    case d_eF3 => rfl
    refine w_ops_nil ?_
    refine w_n ?_
    refine w_K (D := D) (fun xX : List TToken => ⟨[(0, .cv (.val (.sl (List.map eU b)))), (6, .cv (.row 63 (List.map eToken xX)))], h.on []⟩) (fun xX : List TToken => lex_Tokens.k1 b xX) (fun xX s' hr ht => ?_) ?_
    · obtain ⟨out, rfl⟩ : ∃ z, z = xX := ⟨xX, rfl⟩
      dsimp only [lex_Tokens.k1] at hr ht
      refine (w_nT ht ?_)
      refine w_seq ?_
      obtain ⟨nF4, hr⟩ := hr.room
      refine A_region ?_
      refine w_n ?_
      refine w_ret ?_
      obtain rfl := hD _ hr
      exact (A_endR (.fix _ _ (.slot 2) 63 _ (by simp (disch := (apply Apart.mk; decide)) only [go_sem, Nat.reduceAdd, Nat.reduceLT, Nat.reduceMul, Nat.reduceLeDiff, Int.reduceToNat, Int.reduceLT, Int.reduceLE, cF1]; rfl) (A_cut (os' := []) (sl := [(2, .cv (.val (.sl (List.map eToken (out ++ ([(TToken.mk (4 : Int) (b.length : Int) ([] : Str) [])])))))), (3, .cv (.val (.int .i64 (0 : Int)))), (4, .cv (.val (.int .i64 (0 : Int))))]) hwf)) ⟨rfl, on_nil hwf⟩)
    · refine w_block ?_
      refine w_Loop (fun xX : (List TToken × List TUnit × Int × Int × Int) => ⟨[(0, .cv (.val (.sl (List.map eU b)))), (5, .cv (.val (.ptr (some (h.n + 0, 0))))), (6, .cv (.row 63 (List.map eToken xX.1)))], h.on [some (.cells [.val (.sl (List.map eUnit xX.2.1)), .val (.int .i64 xX.2.2.1), .val (.int .i64 xX.2.2.2.1), .val (.int .i64 xX.2.2.2.2)])]⟩) hr (A_cut hwf) (fun W1 xX hr => ?_)
      obtain ⟨out1, units, place, whole, fault⟩ := xX
      dsimp only [lex_Tokens.b1] at hr
      refine w_seq ?_
      refine w_seq ?_
      refine A_ops ?_
      refine A_upto 1 ?_
      obtain ⟨r2, eF5, hr⟩ := hr.bind
      refine A_call (out := ?o_eF5) (hp := ?p_eF5) ?c_eF5 ?d_eF5 ?_
      case c_eF5 => (refine lex_reader_now_runs (Tlex_reader.mk units place whole fault) (h.n + 0) ?_ eF5; (simp (disch := (apply Apart.mk; decide)) only [go_sem, Nat.reduceAdd, Nat.reduceLT, Nat.reduceMul, Nat.reduceLeDiff, Int.reduceToNat, Int.reduceLT, Int.reduceLE]))
      case d_eF5 => rfl
      refine A_ops_end ?_
      refine w_n ?_
      refine A_condH hr (fun cF6 hr => ?_) (fun cF6 hr => ?_)
      · refine w_skip ?_
        refine w_n ?_
        refine w_seq ?_
        refine w_block ?_
        refine w_seq ?_
        refine A_ops ?_
        refine A_upto 3 ?_
        obtain ⟨r3, eF7, hr⟩ := hr.bind
        refine A_call (out := ?o_eF7) (hp := ?p_eF7) ?c_eF7 ?d_eF7 ?_
        case c_eF7 => (refine lex_reader_token_runs (Tlex_reader.mk units place whole fault) b (h.n + 0) ?_ eF7; (simp (disch := (apply Apart.mk; decide)) only [go_sem, Nat.reduceAdd, Nat.reduceLT, Nat.reduceMul, Nat.reduceLeDiff, Int.reduceToNat, Int.reduceLT, Int.reduceLE]))
        case d_eF7 => rfl
        obtain ⟨nF8, hr⟩ := hr.room
        refine A_ops_end ?_
        refine w_n ?_
        refine w_seq ?_
        refine A_region ?_
        refine w_n ?_
        refine A_condH hr (fun cF9 hr => ?_) (fun cF9 hr => ?_)
        · refine w_seq ?_
          refine w_drawn [0, 2, 3, 4, 5, 1, 6, 7, 8] (by rfl) ?_
          refine A_prun [0, 2, 3, 4, 5] [5, 4, 3, 2, 0] ?_
          obtain ⟨r4, eF10, hr⟩ := hr.bind
          refine A_pcall [5, 4, 3, 2] (out := ?o_eF10) (hp := ?p_eF10) ?c_eF10 ?d_eF10 ?_
          case c_eF10 => (refine lex_reader_at_runs r3.2 (h.n + 0) ?_ eF10; (simp (disch := (apply Apart.mk; decide)) only [go_sem, Nat.reduceAdd, Nat.reduceLT, Nat.reduceMul, Nat.reduceLeDiff, Int.reduceToNat, Int.reduceLT, Int.reduceLE]))
          case d_eF10 => rfl
          refine A_pop [5, 4, 3, 2] ?_
          refine A_pop [5, 4, 3, 2] ?_
          refine A_pop [] ?_
          refine A_pend ?_
          refine w_n ?_
          refine w_ret ?_
          obtain rfl := hD _ hr
          exact (w_br (w_tr (w_tr (w_br (w_tr (w_tr (A_endR (A_cut (os' := []) (sl := [(2, .cv (.val (.sl (List.map eToken ([] : List TToken))))), (3, .cv (.val (.int .i64 r4))), (4, .cv (.val (.int .i64 r3.2.fault)))]) hwf) ⟨rfl, on_nil hwf⟩)))))))
        · refine w_skip ?_
          refine (w_bn (w_n ?_))
          refine A_ops ?_
          refine A_upto 1 ?_
          obtain ⟨r5, eF11, hr⟩ := hr.bind
          refine A_call (out := ?o_eF11) (hp := ?p_eF11) ?c_eF11 ?d_eF11 ?_
          case c_eF11 => (refine lex_reader_blank_runs r3.2 (h.n + 0) ?_ eF11; (simp (disch := (apply Apart.mk; decide)) only [go_sem, Nat.reduceAdd, Nat.reduceLT, Nat.reduceMul, Nat.reduceLeDiff, Int.reduceToNat, Int.reduceLT, Int.reduceLE]))
          case d_eF11 => rfl
          refine w_ops_nil ?_
          exact (w_k ⟨((out1 ++ ([r3.1])), r5.units, r5.place, r5.whole, r5.fault), hr, (A_cut hwf)⟩)
      · refine w_exit ?_
        exact (w_te (w_te (w_bx (w_k ⟨out1, (hr).map, (A_cut hwf)⟩))))
end Go.Val

/- part LW24 -/
/- scansion/syntax.kept runs as it is read off. -/
namespace Go.Val
set_option maxRecDepth 20000
open Go.Proofs
theorem syntax_kept_runs (s : Str) {h : Heap} {a : Bool} (e : syntax_kept s = some a) :
    Runs CT 24 [.cv (.val (.str (bs s)))] h fun o h' => o = [.cv (.val (.bool a))] ∧ h' = h := by
  refine Runs.start Tryz.f24 _ Tryz.func24 rfl (by rw [Tryz.ntmps24]; simp) (by rfl) (by rfl) (fun hwf hu => ?_)
  obtain ⟨D, hD, hr⟩ : ∃ D : Bool → Prop, (∀ z, D z → z = a) ∧ Holds (syntax_kept s) D := ⟨fun z => z = a, fun _ h => h, Holds.intro e rfl⟩
  dsimp only [syntax_kept] at hr
  change wpCode _ _ _ _ _ ⟨[(0, .cv (.val (.str (bs s))))], h.on []⟩
  refine w_seq ?_
  refine A_region ?_
  refine w_n ?_
  refine w_joinR (sj := ⟨[(2, .cv (.val (.bool ((s == ([115, 101, 116] : Str)) || ((s == ([98, 114, 101, 97, 107] : Str)) || (s == ([107, 101, 101, 112] : Str)))))))], h.on []⟩) (A_ops ?_) ?_
  · refine A_upto 3 ?_
    rcases Bool.eq_false_or_eq_true (s == ([115, 101, 116] : Str)) with cF1 | cF1
    · refine A_ops_end ?_
      exact w_k (A_cut hwf)
    · refine A_upto 4 ?_
      rcases Bool.eq_false_or_eq_true (s == ([98, 114, 101, 97, 107] : Str)) with cF2 | cF2
      · refine A_ops_end ?_
        exact w_k (A_cut hwf)
      · refine A_ops_end ?_
        exact w_k (A_cut hwf)
  refine w_ret ?_
  obtain rfl := hD _ hr
  exact (A_endR (A_cut (os' := []) (sl := [(2, .cv (.val (.bool ((s == ([115, 101, 116] : Str)) || ((s == ([98, 114, 101, 97, 107] : Str)) || (s == ([107, 101, 101, 112] : Str)))))))]) hwf) ⟨rfl, on_nil hwf⟩)
end Go.Val

/- part LW23 -/
/- (*scansion/syntax.tokens).now runs as it is read off. -/
namespace Go.Val
set_option maxRecDepth 20000
open Go.Proofs
theorem syntax_tokens_now_runs (t : Tsyntax_parser) (l0 : Nat) (l0m3 : Nat) {h : Heap} (ha0 : h.at_ l0 = some (.cells [.val (.sl (List.map eToken t.tokens.list)), .val (.int .i64 t.tokens.place), .val (.int .i64 t.tokens.fault), .val (.map (some (l0m3))), .row 35 (List.map (eL eRange) t.program.Sets), .row 40 (List.map eRule t.program.Rules)])) (ha0m3 : h.at_ l0m3 = some (.map 9 (encM eS (eL eRange) t.names))) (hn0_0m3 : l0 ≠ l0m3) {a : TToken} (e : syntax_tokens_now t = some a) :
    Runs CT 23 [.cv (.val (.ptr (some (l0, 0))))] h fun o h' => o = [.cv (.val (.agg [.int .i64 a.Kind, .int .i64 a.At, .str (bs a.Text), .sl (List.map eRange a.Set)]))] ∧ h' = h := by
  refine Runs.start Tryz.f23 _ Tryz.func23 rfl (by rw [Tryz.ntmps23]; simp) (by rfl) (by rfl) (fun hwf hu => ?_)
  have hl0 := (hwf _ _ ha0).1
  have kl0 := locF hl0
  have hl0m3 := (hwf _ _ ha0m3).1
  have kl0m3 := locF hl0m3
  obtain ⟨D, hD, hr⟩ : ∃ D : TToken → Prop, (∀ z, D z → z = a) ∧ Holds (syntax_tokens_now t) D := ⟨fun z => z = a, fun _ h => h, Holds.intro e rfl⟩
  dsimp only [syntax_tokens_now] at hr
  change wpCode _ _ _ _ _ ⟨[(0, .cv (.val (.ptr (some (l0, 0)))))], h.on []⟩
  refine w_seq ?_
  refine A_region ?_
  refine w_n ?_
  refine w_seq ?_
  refine w_drawn [0, 1, 2, 3, 4, 5, 6, 7, 8, 9, 10] (by rfl) ?_
  obtain ⟨x, nF1, eF2, gF3, hr⟩ := hr.idx
  refine A_prun [0, 1, 2, 3, 4, 5, 6, 7, 8, 9] [9, 8, 7, 6, 5, 4, 3, 2, 1, 0] ?_
  refine A_pop [] ?_
  refine A_pend ?_
  refine w_n ?_
  refine w_ret ?_
  obtain rfl := hD _ hr
  exact (w_endRD (A_cut (os' := [some (.cells [.val (.int .i64 x.Kind), .val (.int .i64 x.At), .val (.str (bs x.Text)), .val (.sl (List.map eRange x.Set))])]) (sl := [(2, .cv (.val (.ptr (some (h.n + 0, 0)))))]) hwf) (by simp (disch := (apply Apart.mk; decide)) only [go_sem, Nat.reduceAdd, Nat.reduceLT, Nat.reduceMul, Nat.reduceLeDiff, Int.reduceToNat, Int.reduceLT, Int.reduceLE, ha0, on_atB hl0, lt_add hl0, lt_at hl0, ha0m3, on_atB hl0m3, lt_add hl0m3, lt_at hl0m3, Tryz.results23, results_data CT_gives23, resCell, resVal.eq_2, loadOp_sv]) (Drops.on (os := [some (.cells [.val (.int .i64 x.Kind), .val (.int .i64 x.At), .val (.str (bs x.Text)), .val (.sl (List.map eRange x.Set))])]) (os' := []) hwf (Nat.le_refl _) (by simp (disch := (apply Apart.mk; decide)) only [go_sem, Nat.reduceAdd, Nat.reduceLT, Nat.reduceMul, Nat.reduceLeDiff, Int.reduceToNat, Int.reduceLT, Int.reduceLE, ha0, on_atB hl0, lt_add hl0, lt_at hl0, ha0m3, on_atB hl0m3, lt_add hl0m3, lt_at hl0m3])) ⟨rfl, on_nil hwf⟩)
end Go.Val

/- part LW25 -/
/- (*scansion/syntax.tokens).fail runs as it is read off. -/
namespace Go.Val
set_option maxRecDepth 20000
open Go.Proofs
theorem syntax_tokens_fail_runs (t : Tsyntax_parser) (e_ : Int) (l0 : Nat) (l0m3 : Nat) {h : Heap} (ha0 : h.at_ l0 = some (.cells [.val (.sl (List.map eToken t.tokens.list)), .val (.int .i64 t.tokens.place), .val (.int .i64 t.tokens.fault), .val (.map (some (l0m3))), .row 35 (List.map (eL eRange) t.program.Sets), .row 40 (List.map eRule t.program.Rules)])) (ha0m3 : h.at_ l0m3 = some (.map 9 (encM eS (eL eRange) t.names))) (hn0_0m3 : l0 ≠ l0m3) {a : Tsyntax_parser} (e : syntax_tokens_fail t e_ = some a) :
    Runs CT 25 [.cv (.val (.ptr (some (l0, 0)))), .cv (.val (.int .i64 e_))] h fun o h' => o = [] ∧ h' = ((h.upd l0 (.cells [.val (.sl (List.map eToken a.tokens.list)), .val (.int .i64 a.tokens.place), .val (.int .i64 a.tokens.fault), .val (.map (some (l0m3))), .row 35 (List.map (eL eRange) a.program.Sets), .row 40 (List.map eRule a.program.Rules)])).upd l0m3 (.map 9 (encM eS (eL eRange) a.names))) := by
  refine Runs.start Tryz.f25 _ Tryz.func25 rfl (by rw [Tryz.ntmps25]; simp) (by rfl) (by rfl) (fun hwf hu => ?_)
  have hl0 := (hwf _ _ ha0).1
  have kl0 := locF hl0
  have hl0m3 := (hwf _ _ ha0m3).1
  have kl0m3 := locF hl0m3
  have ku0 := updF hl0 ha0
  have ku0m3 := updF hl0m3 ha0m3
  have kp0_0m3 := updP hn0_0m3
  have kk0_0m3 := keepF hn0_0m3 ha0m3
  obtain ⟨D, hD, hr⟩ : ∃ D : Tsyntax_parser → Prop, (∀ z, D z → z = a) ∧ Holds (syntax_tokens_fail t e_) D := ⟨fun z => z = a, fun _ h => h, Holds.intro e rfl⟩
  dsimp only [syntax_tokens_fail] at hr
  change wpCode _ _ _ _ _ ⟨[(0, .cv (.val (.ptr (some (l0, 0))))), (1, .cv (.val (.int .i64 e_)))], h.on []⟩
  refine w_seq ?_
  refine A_region ?_
  refine w_n ?_
  refine w_K (D := D) (fun xX : Int => ⟨[], (h.upd l0 (.cells [.val (.sl (List.map eToken t.tokens.list)), .val (.int .i64 t.tokens.place), .val (.int .i64 xX), .val (.map (some (l0m3))), .row 35 (List.map (eL eRange) t.program.Sets), .row 40 (List.map eRule t.program.Rules)])).on []⟩) (fun xX : Int => syntax_tokens_fail.k1 t xX) (fun xX s' hr ht => ?_) ?_
  · obtain ⟨fault, rfl⟩ : ∃ z, z = xX := ⟨xX, rfl⟩
    dsimp only [syntax_tokens_fail.k1] at hr ht
    obtain rfl := hD _ hr
    exact (A_endN (To.trans ht (A_cut (os' := []) (sl := []) (h := ((h.upd l0 (.cells [.val (.sl (List.map eToken t.tokens.list)), .val (.int .i64 t.tokens.place), .val (.int .i64 fault), .val (.map (some (l0m3))), .row 35 (List.map (eL eRange) t.program.Sets), .row 40 (List.map eRule t.program.Rules)])).upd l0m3 (.map 9 (encM eS (eL eRange) t.names)))) (A_wf (A_wf hwf hl0) hl0m3))) ⟨rfl, on_nil (A_wf (A_wf hwf hl0) hl0m3)⟩)
  · refine A_condH hr (fun cF1 hr => ?_) (fun cF1 hr => ?_)
    · refine A_region ?_
      exact (w_k ⟨e_, hr, (A_cut (A_wf hwf hl0))⟩)
    · refine w_skip ?_
      exact (w_k ⟨t.tokens.fault, hr, (A_cut (A_wf hwf hl0))⟩)
end Go.Val

/- part LW73 -/
/- (*scansion/syntax.tokens).is runs as it is read off. -/
namespace Go.Val
set_option maxRecDepth 20000
open Go.Proofs
theorem syntax_tokens_is_runs (t : Tsyntax_parser) (sign : Str) (l0 : Nat) (l0m3 : Nat) {h : Heap} (ha0 : h.at_ l0 = some (.cells [.val (.sl (List.map eToken t.tokens.list)), .val (.int .i64 t.tokens.place), .val (.int .i64 t.tokens.fault), .val (.map (some (l0m3))), .row 35 (List.map (eL eRange) t.program.Sets), .row 40 (List.map eRule t.program.Rules)])) (ha0m3 : h.at_ l0m3 = some (.map 9 (encM eS (eL eRange) t.names))) (hn0_0m3 : l0 ≠ l0m3) {a : Bool} (e : syntax_tokens_is t sign = some a) :
    Runs CT 73 [.cv (.val (.ptr (some (l0, 0)))), .cv (.val (.str (bs sign)))] h fun o h' => o = [.cv (.val (.bool a))] ∧ h' = h := by
  refine Runs.start Tryz.f73 _ Tryz.func73 rfl (by rw [Tryz.ntmps73]; simp) (by rfl) (by rfl) (fun hwf hu => ?_)
  have hl0 := (hwf _ _ ha0).1
  have kl0 := locF hl0
  have hl0m3 := (hwf _ _ ha0m3).1
  have kl0m3 := locF hl0m3
  obtain ⟨D, hD, hr⟩ : ∃ D : Bool → Prop, (∀ z, D z → z = a) ∧ Holds (syntax_tokens_is t sign) D := ⟨fun z => z = a, fun _ h => h, Holds.intro e rfl⟩
  dsimp only [syntax_tokens_is] at hr
  change wpCode _ _ _ _ _ ⟨[(0, .cv (.val (.ptr (some (l0, 0))))), (1, .cv (.val (.str (bs sign))))], h.on []⟩
  refine w_seq ?_
  refine A_region ?_
  refine w_n ?_
  refine w_seq ?_
  refine A_ops ?_
  refine A_upto 1 ?_
  obtain ⟨r, eF1, hr⟩ := hr.bind
  refine A_call (out := ?o_eF1) (hp := ?p_eF1) ?c_eF1 ?d_eF1 ?_
  case c_eF1 => (refine syntax_tokens_now_runs t (l0) (l0m3) ?_ ?_ ?_ eF1; (simp (disch := (apply Apart.mk; decide)) only [go_sem, Nat.reduceAdd, Nat.reduceLT, Nat.reduceMul, Nat.reduceLeDiff, Int.reduceToNat, Int.reduceLT, Int.reduceLE, ha0, on_atB hl0, lt_add hl0, lt_at hl0, ha0m3, on_atB hl0m3, lt_add hl0m3, lt_at hl0m3]); (simp (disch := (apply Apart.mk; decide)) only [go_sem, Nat.reduceAdd, Nat.reduceLT, Nat.reduceMul, Nat.reduceLeDiff, Int.reduceToNat, Int.reduceLT, Int.reduceLE, ha0, on_atB hl0, lt_add hl0, lt_at hl0, ha0m3, on_atB hl0m3, lt_add hl0m3, lt_at hl0m3]); (first | omega | assumption | exact Ne.symm (by assumption)))
  case d_eF1 => rfl
  refine A_ops_end ?_
  refine w_n ?_
  refine w_joinR (sj := ⟨[(4, .cv (.val (.bool ((t.tokens.fault == (0 : Int)) && ((r.Kind == (2 : Int)) && (r.Text == sign))))))], h.on []⟩) (A_ops ?_) ?_
  · refine A_upto 6 ?_
    rcases Bool.eq_false_or_eq_true (t.tokens.fault == (0 : Int)) with cF2 | cF2
    · refine A_upto 5 ?_
      rcases Bool.eq_false_or_eq_true (r.Kind == (2 : Int)) with cF3 | cF3
      · refine A_ops_end ?_
        exact w_k (A_cut hwf)
      · refine A_ops_end ?_
        exact w_k (A_cut hwf)
    · refine A_ops_end ?_
      exact w_k (A_cut hwf)
  refine w_ret ?_
  obtain rfl := hD _ hr
  exact (A_endR (A_cut (os' := []) (sl := [(4, .cv (.val (.bool ((t.tokens.fault == (0 : Int)) && ((r.Kind == (2 : Int)) && (r.Text == sign))))))]) hwf) ⟨rfl, on_nil hwf⟩)
end Go.Val

/- part LW48 -/
/- (*scansion/syntax.tokens).take runs as it is read off. -/
namespace Go.Val
set_option maxRecDepth 20000
open Go.Proofs
theorem syntax_tokens_take_runs (t : Tsyntax_parser) (sign : Str) (l0 : Nat) (l0m3 : Nat) {h : Heap} (ha0 : h.at_ l0 = some (.cells [.val (.sl (List.map eToken t.tokens.list)), .val (.int .i64 t.tokens.place), .val (.int .i64 t.tokens.fault), .val (.map (some (l0m3))), .row 35 (List.map (eL eRange) t.program.Sets), .row 40 (List.map eRule t.program.Rules)])) (ha0m3 : h.at_ l0m3 = some (.map 9 (encM eS (eL eRange) t.names))) (hn0_0m3 : l0 ≠ l0m3) {a : Tsyntax_parser} (e : syntax_tokens_take t sign = some a) :
    Runs CT 48 [.cv (.val (.ptr (some (l0, 0)))), .cv (.val (.str (bs sign)))] h fun o h' => o = [] ∧ h' = ((h.upd l0 (.cells [.val (.sl (List.map eToken a.tokens.list)), .val (.int .i64 a.tokens.place), .val (.int .i64 a.tokens.fault), .val (.map (some (l0m3))), .row 35 (List.map (eL eRange) a.program.Sets), .row 40 (List.map eRule a.program.Rules)])).upd l0m3 (.map 9 (encM eS (eL eRange) a.names))) := by
  refine Runs.start Tryz.f48 _ Tryz.func48 rfl (by rw [Tryz.ntmps48]; simp) (by rfl) (by rfl) (fun hwf hu => ?_)
  have hl0 := (hwf _ _ ha0).1
  have kl0 := locF hl0
  have hl0m3 := (hwf _ _ ha0m3).1
  have kl0m3 := locF hl0m3
  have ku0 := updF hl0 ha0
  have ku0m3 := updF hl0m3 ha0m3
  have kp0_0m3 := updP hn0_0m3
  have kk0_0m3 := keepF hn0_0m3 ha0m3
  obtain ⟨D, hD, hr⟩ : ∃ D : Tsyntax_parser → Prop, (∀ z, D z → z = a) ∧ Holds (syntax_tokens_take t sign) D := ⟨fun z => z = a, fun _ h => h, Holds.intro e rfl⟩
  dsimp only [syntax_tokens_take] at hr
  change wpCode _ _ _ _ _ ⟨[(0, .cv (.val (.ptr (some (l0, 0))))), (1, .cv (.val (.str (bs sign))))], h.on []⟩
  refine w_seq ?_
  refine w_seq ?_
  refine A_ops ?_
  refine A_upto 2 ?_
  obtain ⟨r, eF1, hr⟩ := hr.bind
  refine A_call (out := ?o_eF1) (hp := ?p_eF1) ?c_eF1 ?d_eF1 ?_
  case c_eF1 => (refine syntax_tokens_is_runs t sign (l0) (l0m3) ?_ ?_ ?_ eF1; exact A_hat; exact A_hat; exact A_ne)
  case d_eF1 => rfl
  refine A_ops_end ?_
  refine w_n ?_
  refine A_condH hr (fun cF2 hr => ?_) (fun cF2 hr => ?_)
  · refine w_seq ?_
    refine A_ops ?_
    refine A_upto 1 ?_
    obtain ⟨r1, eF3, hr⟩ := hr.bind
    refine A_call (out := ?o_eF3) (hp := ?p_eF3) ?c_eF3 ?d_eF3 ?_
    case c_eF3 => (refine syntax_tokens_fail_runs t (6 : Int) (l0) (l0m3) ?_ ?_ ?_ eF3; exact A_hat; exact A_hat; exact A_ne)
    case d_eF3 => rfl
    refine w_ops_nil ?_
    refine w_n ?_
    refine w_ret ?_
    obtain rfl := hD _ hr
    exact (w_tr (A_endR (A_cut (os' := []) (sl := []) (h := ((h.upd l0 (.cells [.val (.sl (List.map eToken r1.tokens.list)), .val (.int .i64 r1.tokens.place), .val (.int .i64 r1.tokens.fault), .val (.map (some (l0m3))), .row 35 (List.map (eL eRange) r1.program.Sets), .row 40 (List.map eRule r1.program.Rules)])).upd l0m3 (.map 9 (encM eS (eL eRange) r1.names)))) (A_wf (A_wf hwf hl0) hl0m3)) ⟨rfl, on_nil (A_wf (A_wf hwf hl0) hl0m3)⟩))
  · refine w_skip ?_
    refine w_n ?_
    refine A_region ?_
    obtain rfl := hD _ hr
    exact (A_endN (A_cut (os' := []) (sl := []) (h := ((h.upd l0 (.cells [.val (.sl (List.map eToken t.tokens.list)), .val (.int .i64 (IntKind.i64.wrap (t.tokens.place + (1 : Int)))), .val (.int .i64 t.tokens.fault), .val (.map (some (l0m3))), .row 35 (List.map (eL eRange) t.program.Sets), .row 40 (List.map eRule t.program.Rules)])).upd l0m3 (.map 9 (encM eS (eL eRange) t.names)))) (A_wf (A_wf hwf hl0) hl0m3)) ⟨rfl, on_nil (A_wf (A_wf hwf hl0) hl0m3)⟩)
end Go.Val

/- part LW79 -/
/- scansion/syntax.some runs as it is read off. -/
namespace Go.Val
set_option maxRecDepth 20000
open Go.Proofs
theorem syntax_some_runs (kind : Int) (l : List TNode) {h : Heap} {a : TNode} (e : syntax_some kind l = some a) :
    Runs CT 79 [.cv (.val (.int .i64 kind)), .cv (.val (.sl (List.map eNode l)))] h fun o h' => o = [.cv (.val (.agg [.int .i64 a.Kind, .int .i64 a.Set, .sl (List.map eNode a.Kids)]))] ∧ h' = h := by
  refine Runs.start Tryz.f79 _ Tryz.func79 rfl (by rw [Tryz.ntmps79]; simp) (by rfl) (by rfl) (fun hwf hu => ?_)
  obtain ⟨D, hD, hr⟩ : ∃ D : TNode → Prop, (∀ z, D z → z = a) ∧ Holds (syntax_some kind l) D := ⟨fun z => z = a, fun _ h => h, Holds.intro e rfl⟩
  dsimp only [syntax_some] at hr
  change wpCode _ _ _ _ _ ⟨[(0, .cv (.val (.int .i64 kind))), (1, .cv (.val (.sl (List.map eNode l))))], h.on []⟩
  refine w_seq ?_
  refine A_region ?_
  refine w_n ?_
  refine w_seq ?_
  refine w_seq ?_
  refine A_region ?_
  refine w_n ?_
  refine A_condH hr (fun cF1 hr => ?_) (fun cF1 hr => ?_)
  · refine w_seq ?_
    obtain ⟨x, eF2, gF3, hr⟩ := hr.idxK
    refine A_region ?_
    refine w_n ?_
    refine w_ret ?_
    obtain rfl := hD _ hr
    exact (w_tr (w_endRD (A_cut (os' := [some (.cells [.val (.int .i64 x.Kind), .val (.int .i64 x.Set), .val (.sl (List.map eNode x.Kids))])]) (sl := [(4, .cv (.val (.ptr (some (h.n + 0, 0)))))]) hwf) (by simp (disch := (apply Apart.mk; decide)) only [go_sem, Nat.reduceAdd, Nat.reduceLT, Nat.reduceMul, Nat.reduceLeDiff, Int.reduceToNat, Int.reduceLT, Int.reduceLE, Tryz.results79, results_data CT_gives79, resCell, resVal.eq_2, loadOp_sv, cF1]) (Drops.on (os := [some (.cells [.val (.int .i64 x.Kind), .val (.int .i64 x.Set), .val (.sl (List.map eNode x.Kids))])]) (os' := []) hwf (Nat.le_refl _) (by simp (disch := (apply Apart.mk; decide)) only [go_sem, Nat.reduceAdd, Nat.reduceLT, Nat.reduceMul, Nat.reduceLeDiff, Int.reduceToNat, Int.reduceLT, Int.reduceLE, cF1])) ⟨rfl, on_nil hwf⟩))
  · refine w_skip ?_
    refine w_n ?_
    refine w_seq ?_
    refine A_region ?_
    refine w_n ?_
    refine w_ret ?_
    obtain rfl := hD _ hr
    exact (w_endRD (A_cut (os' := [some (.cells [.val (.int .i64 kind), .val (.int .i64 (0 : Int)), .val (.sl (List.map eNode l))])]) (sl := [(4, .cv (.val (.ptr (some (h.n + 0, 0)))))]) hwf) (by simp (disch := (apply Apart.mk; decide)) only [go_sem, Nat.reduceAdd, Nat.reduceLT, Nat.reduceMul, Nat.reduceLeDiff, Int.reduceToNat, Int.reduceLT, Int.reduceLE, Tryz.results79, results_data CT_gives79, resCell, resVal.eq_2, loadOp_sv, cF1]) (Drops.on (os := [some (.cells [.val (.int .i64 kind), .val (.int .i64 (0 : Int)), .val (.sl (List.map eNode l))])]) (os' := []) hwf (Nat.le_refl _) (by simp (disch := (apply Apart.mk; decide)) only [go_sem, Nat.reduceAdd, Nat.reduceLT, Nat.reduceMul, Nat.reduceLeDiff, Int.reduceToNat, Int.reduceLT, Int.reduceLE, cF1])) ⟨rfl, on_nil hwf⟩)
end Go.Val

/- part LW98 -/
/- (*scansion/syntax.parser).set runs as it is read off. -/
namespace Go.Val
set_option maxRecDepth 20000
open Go.Proofs
theorem syntax_parser_set_runs (p : Tsyntax_parser) (l0 : Nat) (l0m3 : Nat) {h : Heap} (ha0 : h.at_ l0 = some (.cells [.val (.sl (List.map eToken p.tokens.list)), .val (.int .i64 p.tokens.place), .val (.int .i64 p.tokens.fault), .val (.map (some (l0m3))), .row 35 (List.map (eL eRange) p.program.Sets), .row 40 (List.map eRule p.program.Rules)])) (ha0m3 : h.at_ l0m3 = some (.map 9 (encM eS (eL eRange) p.names))) (hn0_0m3 : l0 ≠ l0m3) {a : (List TRange × Bool × Tsyntax_parser)} (e : syntax_parser_set p = some a) :
    Runs CT 98 [.cv (.val (.ptr (some (l0, 0))))] h fun o h' => o = [.cv (.val (.sl (List.map eRange a.1))), .cv (.val (.bool a.2.1))] ∧ h' = ((h.upd l0 (.cells [.val (.sl (List.map eToken a.2.2.tokens.list)), .val (.int .i64 a.2.2.tokens.place), .val (.int .i64 a.2.2.tokens.fault), .val (.map (some (l0m3))), .row 35 (List.map (eL eRange) a.2.2.program.Sets), .row 40 (List.map eRule a.2.2.program.Rules)])).upd l0m3 (.map 9 (encM eS (eL eRange) a.2.2.names))) := by
  refine Runs.start Tryz.f98 _ Tryz.func98 rfl (by rw [Tryz.ntmps98]; simp) (by rfl) (by rfl) (fun hwf hu => ?_)
  have hl0 := (hwf _ _ ha0).1
  have kl0 := locF hl0
  have hl0m3 := (hwf _ _ ha0m3).1
  have kl0m3 := locF hl0m3
  have ku0 := updF hl0 ha0
  have ku0m3 := updF hl0m3 ha0m3
  have kp0_0m3 := updP hn0_0m3
  have kk0_0m3 := keepF hn0_0m3 ha0m3
  obtain ⟨D, hD, hr⟩ : ∃ D : (List TRange × Bool × Tsyntax_parser) → Prop, (∀ z, D z → z = a) ∧ Holds (syntax_parser_set p) D := ⟨fun z => z = a, fun _ h => h, Holds.intro e rfl⟩
  dsimp only [syntax_parser_set] at hr
  change wpCode _ _ _ _ _ ⟨[(0, .cv (.val (.ptr (some (l0, 0)))))], h.on []⟩
  refine w_seq ?_
  refine A_region ?_
  refine w_n ?_
  refine w_seq ?_
  refine A_ops ?_
  refine A_upto 3 ?_
  obtain ⟨r, eF1, hr⟩ := hr.bind
  refine A_call (out := ?o_eF1) (hp := ?p_eF1) ?c_eF1 ?d_eF1 ?_
  case c_eF1 => (refine syntax_tokens_now_runs p (l0) (l0m3) ?_ ?_ ?_ eF1; exact A_hat; exact A_hat; exact A_ne)
  case d_eF1 => rfl
  refine A_ops_end ?_
  refine w_n ?_
  refine w_seq ?_
  refine w_block ?_
  refine w_seq ?_
  refine A_region ?_
  refine w_n ?_
  refine A_condH hr (fun cF2 hr => ?_) (fun cF2 hr => ?_)
  · refine w_seq ?_
    refine A_region ?_
    refine w_n ?_
    refine w_ret ?_
    obtain rfl := hD _ hr
    exact (w_br (w_tr (A_endR (A_cut (os' := []) (sl := [(2, .cv (.val (.sl (List.map eRange ([] : List TRange))))), (3, .cv (.val (.bool false)))]) (h := ((h.upd l0 (.cells [.val (.sl (List.map eToken p.tokens.list)), .val (.int .i64 p.tokens.place), .val (.int .i64 p.tokens.fault), .val (.map (some (l0m3))), .row 35 (List.map (eL eRange) p.program.Sets), .row 40 (List.map eRule p.program.Rules)])).upd l0m3 (.map 9 (encM eS (eL eRange) p.names)))) (A_wf (A_wf hwf hl0) hl0m3)) ⟨rfl, on_nil (A_wf (A_wf hwf hl0) hl0m3)⟩)))
  · refine w_seq ?_
    refine A_region ?_
    refine w_n ?_
    refine A_condH hr (fun cF3 hr => ?_) (fun cF3 hr => ?_)
    · refine w_seq ?_
      refine A_region ?_
      refine w_n ?_
      refine w_ret ?_
      obtain rfl := hD _ hr
      exact (w_br (w_tr (A_endR (A_cut (os' := []) (sl := [(2, .cv (.val (.sl (List.map eRange r.Set)))), (3, .cv (.val (.bool true)))]) (h := ((h.upd l0 (.cells [.val (.sl (List.map eToken p.tokens.list)), .val (.int .i64 p.tokens.place), .val (.int .i64 p.tokens.fault), .val (.map (some (l0m3))), .row 35 (List.map (eL eRange) p.program.Sets), .row 40 (List.map eRule p.program.Rules)])).upd l0m3 (.map 9 (encM eS (eL eRange) p.names)))) (A_wf (A_wf hwf hl0) hl0m3)) ⟨rfl, on_nil (A_wf (A_wf hwf hl0) hl0m3)⟩)))
    · refine w_joinR (sj := ⟨[(0, .cv (.val (.ptr (some (l0, 0))))), (4, .cv (.val (.ptr (some (h.n + 0, 0))))), (24, .cv (.val (.bool ((r.Kind == (2 : Int)) && (r.Text == ([46] : Str))))))], h.on [some (.cells [.val (.int .i64 r.Kind), .val (.int .i64 r.At), .val (.str (bs r.Text)), .val (.sl (List.map eRange r.Set))])]⟩) (A_ops ?_) ?_
      · refine A_upto 4 ?_
        rcases Bool.eq_false_or_eq_true (r.Kind == (2 : Int)) with cF4 | cF4
        · refine A_ops_end ?_
          exact w_k (A_cut hwf)
        · refine A_ops_end ?_
          exact w_k (A_cut hwf)
      refine A_condH hr (fun cF5 hr => ?_) (fun cF5 hr => ?_)
      · refine w_seq ?_
        refine A_region ?_
        refine w_n ?_
        refine w_ret ?_
        obtain rfl := hD _ hr
        exact (w_br (w_tr (A_endR (.fix _ _ (.slot 2) 74 _ (by simp (disch := (apply Apart.mk; decide)) only [go_sem, Nat.reduceAdd, Nat.reduceLT, Nat.reduceMul, Nat.reduceLeDiff, Int.reduceToNat, Int.reduceLT, Int.reduceLE, ha0, on_atB hl0, lt_add hl0, lt_at hl0, ha0m3, on_atB hl0m3, lt_add hl0m3, lt_at hl0m3, on_updB hl0, on_atU hl0, on_updU hl0, upd_same ha0, on_updB hl0m3, on_atU hl0m3, on_updU hl0m3, upd_same ha0m3, upd_ne hn0_0m3, upd_ne (Ne.symm hn0_0m3), upd_swap hn0_0m3, on_atUU hl0, on_atUU hl0m3, on_updUU hl0, on_updUU hl0m3, upd_keep hn0_0m3 ha0m3, cF2, cF3, cF5]; rfl) (A_cut (os' := []) (sl := [(2, .cv (.val (.sl (List.map eRange ([(TRange.mk (0 : Int) (1114111 : Int))]))))), (3, .cv (.val (.bool true)))]) (h := ((h.upd l0 (.cells [.val (.sl (List.map eToken p.tokens.list)), .val (.int .i64 p.tokens.place), .val (.int .i64 p.tokens.fault), .val (.map (some (l0m3))), .row 35 (List.map (eL eRange) p.program.Sets), .row 40 (List.map eRule p.program.Rules)])).upd l0m3 (.map 9 (encM eS (eL eRange) p.names)))) (A_wf (A_wf hwf hl0) hl0m3))) ⟨rfl, on_nil (A_wf (A_wf hwf hl0) hl0m3)⟩)))
      · obtain ⟨v1, vF8, hr⟩ := hr.bind
        refine w_joinR (sj := ⟨[(0, .cv (.val (.ptr (some (l0, 0))))), (4, .cv (.val (.ptr (some (h.n + 0, 0))))), (35, .cv (.val (.bool v1)))], h.on [some (.cells [.val (.int .i64 r.Kind), .val (.int .i64 r.At), .val (.str (bs r.Text)), .val (.sl (List.map eRange r.Set))])]⟩) (A_ops ?_) ?_
        · have hr := Holds.intro (D := fun z => z = v1) vF8 rfl
          refine A_upto 4 ?_
          rcases hr.ite with ⟨cF6, hr⟩ | ⟨cF6, hr⟩
          · refine A_upto 2 ?_
            refine A_off ?_
            refine A_ops_end ?_
            obtain rfl : _ = v1 := hr
            exact w_k (A_cut hwf)
          · refine A_upto 2 ?_
            obtain ⟨r1, eF7, hr⟩ := hr.bind
            refine A_call (out := ?o_eF7) (hp := ?p_eF7) ?c_eF7 ?d_eF7 ?_
            case c_eF7 => exact syntax_kept_runs r.Text eF7
            case d_eF7 => rfl
            refine A_ops_end ?_
            obtain rfl : _ = v1 := hr
            exact w_k (A_cut hwf)
        refine A_condH hr (fun cF9 hr => ?_) (fun cF9 hr => ?_)
        · refine w_seq ?_
          refine A_region ?_
          refine w_n ?_
          refine w_ret ?_
          obtain rfl := hD _ hr
          exact (w_br (w_tr (A_endR (A_cut (os' := []) (sl := [(2, .cv (.val (.sl (List.map eRange ([] : List TRange))))), (3, .cv (.val (.bool false)))]) (h := ((h.upd l0 (.cells [.val (.sl (List.map eToken p.tokens.list)), .val (.int .i64 p.tokens.place), .val (.int .i64 p.tokens.fault), .val (.map (some (l0m3))), .row 35 (List.map (eL eRange) p.program.Sets), .row 40 (List.map eRule p.program.Rules)])).upd l0m3 (.map 9 (encM eS (eL eRange) p.names)))) (A_wf (A_wf hwf hl0) hl0m3)) ⟨rfl, on_nil (A_wf (A_wf hwf hl0) hl0m3)⟩)))
        · refine w_skip ?_
          refine (w_bn (w_n ?_))
          refine w_seq ?_
          refine w_drawn [0, 1, 2, 3, 4, 5, 6, 7, 8, 9, 10, 11] (by rfl) ?_
          refine A_prun [0, 1, 2, 3, 4, 5, 6, 7, 8, 9] [9, 8, 7, 6, 5, 4, 3, 2, 1, 0] ?_
          refine A_pop [9] ?_
          refine A_pop [] ?_
          refine A_pend ?_
          refine w_n ?_
          refine w_seq ?_
          refine w_seq ?_
          refine A_region ?_
          refine w_n ?_
          refine w_K (D := D) (fun xX : (List TToken × Int × Int × List (List TRange) × List TRule × List (Str × List TRange)) => ⟨[(5, .cv (.val (.sl (List.map eRange ((aget r.Text p.names).getD []))))), (6, .cv (.val (.bool (aget r.Text p.names).isSome)))], ((h.upd l0 (.cells [.val (.sl (List.map eToken xX.1)), .val (.int .i64 xX.2.1), .val (.int .i64 xX.2.2.1), .val (.map (some (l0m3))), .row 35 (List.map (eL eRange) xX.2.2.2.1), .row 40 (List.map eRule xX.2.2.2.2.1)])).upd l0m3 (.map 9 (encM eS (eL eRange) xX.2.2.2.2.2))).on []⟩) (fun xX : (List TToken × Int × Int × List (List TRange) × List TRule × List (Str × List TRange)) => syntax_parser_set.k1 p r xX.1 xX.2.1 xX.2.2.1 xX.2.2.2.1 xX.2.2.2.2.1 xX.2.2.2.2.2) (fun xX s' hr ht => ?_) ?_
          · obtain ⟨list, place, fault, Sets, Rules, m⟩ := xX
            dsimp only [syntax_parser_set.k1] at hr ht
            refine (w_nT ht ?_)
            refine w_seq ?_
            refine A_region ?_
            refine w_n ?_
            refine w_ret ?_
            obtain rfl := hD _ hr
            exact (A_endR (A_cut (os' := []) (sl := [(2, .cv (.val (.sl (List.map eRange ((aget r.Text p.names).getD []))))), (3, .cv (.val (.bool (aget r.Text p.names).isSome)))]) (h := ((h.upd l0 (.cells [.val (.sl (List.map eToken list)), .val (.int .i64 place), .val (.int .i64 fault), .val (.map (some (l0m3))), .row 35 (List.map (eL eRange) Sets), .row 40 (List.map eRule Rules)])).upd l0m3 (.map 9 (encM eS (eL eRange) m)))) (A_wf (A_wf hwf hl0) hl0m3)) ⟨rfl, on_nil (A_wf (A_wf hwf hl0) hl0m3)⟩)
          · refine A_condH hr (fun cF10 hr => ?_) (fun cF10 hr => ?_)
            · refine A_ops ?_
              refine A_upto 3 ?_
              obtain ⟨r2, eF11, hr⟩ := hr.bind
              refine A_call (out := ?o_eF11) (hp := ?p_eF11) ?c_eF11 ?d_eF11 ?_
              case c_eF11 => (refine syntax_tokens_fail_runs p (4 : Int) (l0) (l0m3) ?_ ?_ ?_ eF11; exact A_hat; exact A_hat; exact A_ne)
              case d_eF11 => rfl
              refine w_ops_nil ?_
              exact (w_k ⟨(r2.tokens.list, r2.tokens.place, r2.tokens.fault, r2.program.Sets, r2.program.Rules, r2.names), hr, (A_cut (A_wf (A_wf hwf hl0) hl0m3))⟩)
            · refine w_skip ?_
              exact (w_k ⟨(p.tokens.list, p.tokens.place, p.tokens.fault, p.program.Sets, p.program.Rules, p.names), hr, (A_cut (A_wf (A_wf hwf hl0) hl0m3))⟩)
end Go.Val

/- part LW126 -/
/- scansion/syntax.sign runs as it is read off. -/
namespace Go.Val
set_option maxRecDepth 20000
open Go.Proofs
theorem syntax_sign_runs (s : Str) {h : Heap} {a : Int} (e : syntax_sign s = some a) :
    Runs CT 126 [.cv (.val (.str (bs s)))] h fun o h' => o = [.cv (.val (.int .i64 a))] ∧ h' = h := by
  refine Runs.start Tryz.f126 _ Tryz.func126 rfl (by rw [Tryz.ntmps126]; simp) (by rfl) (by rfl) (fun hwf hu => ?_)
  obtain ⟨D, hD, hr⟩ : ∃ D : Int → Prop, (∀ z, D z → z = a) ∧ Holds (syntax_sign s) D := ⟨fun z => z = a, fun _ h => h, Holds.intro e rfl⟩
  dsimp only [syntax_sign] at hr
  change wpCode _ _ _ _ _ ⟨[(0, .cv (.val (.str (bs s))))], h.on []⟩
  refine w_seq ?_
  refine A_region ?_
  refine w_n ?_
  refine w_seq ?_
  refine w_seq ?_
  refine A_region ?_
  refine w_n ?_
  refine w_block ?_
  refine w_seq ?_
  refine A_region ?_
  refine w_n ?_
  refine A_condH hr (fun cF1 hr => ?_) (fun cF1 hr => ?_)
  · refine w_seq ?_
    refine A_region ?_
    refine w_n ?_
    refine w_ret ?_
    obtain rfl := hD _ hr
    exact (w_br (w_tr (A_endR (A_cut (os' := []) (sl := [(2, .cv (.val (.int .i64 (3 : Int))))]) hwf) ⟨rfl, on_nil hwf⟩)))
  · refine w_seq ?_
    refine A_region ?_
    refine w_n ?_
    refine A_condH hr (fun cF2 hr => ?_) (fun cF2 hr => ?_)
    · refine w_seq ?_
      refine A_region ?_
      refine w_n ?_
      refine w_ret ?_
      obtain rfl := hD _ hr
      exact (w_br (w_tr (A_endR (A_cut (os' := []) (sl := [(2, .cv (.val (.int .i64 (4 : Int))))]) hwf) ⟨rfl, on_nil hwf⟩)))
    · refine w_seq ?_
      refine A_region ?_
      refine w_n ?_
      refine A_condH hr (fun cF3 hr => ?_) (fun cF3 hr => ?_)
      · refine w_seq ?_
        refine A_region ?_
        refine w_n ?_
        refine w_ret ?_
        obtain rfl := hD _ hr
        exact (w_br (w_tr (A_endR (A_cut (os' := []) (sl := [(2, .cv (.val (.int .i64 (5 : Int))))]) hwf) ⟨rfl, on_nil hwf⟩)))
      · refine w_skip ?_
        refine (w_bn (w_n ?_))
        refine w_seq ?_
        refine A_region ?_
        refine w_n ?_
        refine w_ret ?_
        obtain rfl := hD _ hr
        exact (A_endR (A_cut (os' := []) (sl := [(2, .cv (.val (.int .i64 (0 : Int))))]) hwf) ⟨rfl, on_nil hwf⟩)
end Go.Val

/- part LW125 -/
/- scansion/syntax.ends runs as it is read off. -/
namespace Go.Val
set_option maxRecDepth 20000
open Go.Proofs
theorem syntax_ends_runs_r : ∀ (fu : Nat) (n : TNode) {h : Heap} {a : Int} (e : syntax_ends.r fu n = some a),
    Runs CT 125 [.cv (.val (.agg [.int .i64 n.Kind, .int .i64 n.Set, .sl (List.map eNode n.Kids)]))] h fun o h' => o = [.cv (.val (.int .i64 a))] ∧ h' = h := by
  intro fu
  induction fu with
  | zero => intros; rename_i e; simp [syntax_ends.r] at e
  | succ fu ih =>
    intro n h a e
    refine Runs.start Tryz.f125 _ Tryz.func125 rfl (by rw [Tryz.ntmps125]; simp) (by rfl) (by rfl) (fun hwf hu => ?_)
    obtain ⟨D, hD, hr⟩ : ∃ D : Int → Prop, (∀ z, D z → z = a) ∧ Holds (syntax_ends.r (fu + 1) n) D := ⟨fun z => z = a, fun _ h => h, Holds.intro e rfl⟩
    dsimp only [syntax_ends.r] at hr
    change wpCode _ _ _ _ _ ⟨[(0, .cv (.val (.agg [.int .i64 n.Kind, .int .i64 n.Set, .sl (List.map eNode n.Kids)])))], h.on []⟩
    refine w_seq ?_
    refine A_region ?_
    refine w_n ?_
    refine w_seq ?_
    refine w_seq ?_
    refine A_ops ?_
    refine A_upto 1 ?_
    obtain ⟨r, eF1, hr⟩ := hr.bind
    refine A_call (out := ?o_eF1) (hp := ?p_eF1) ?c_eF1 ?d_eF1 ?_
    case c_eF1 => exact syntax_signed_runs n eF1
    case d_eF1 => rfl
    refine A_ops_end ?_
    refine w_n ?_
    refine A_condH hr (fun cF2 hr => ?_) (fun cF2 hr => ?_)
    · refine w_seq ?_
      refine A_region ?_
      refine w_n ?_
      refine w_ret ?_
      obtain rfl := hD _ hr
      exact (w_tr (A_endR (A_cut (os' := []) (sl := [(2, .cv (.val (.int .i64 (0 : Int))))]) hwf) ⟨rfl, on_nil hwf⟩))
    · refine w_skip ?_
      refine w_n ?_
      refine w_seq ?_
      refine A_ops ?_
      obtain ⟨x, eF3, gF4, hr⟩ := hr.idxK
      refine A_upto 4 ?_
      obtain ⟨r1, eF5, hr⟩ := hr.bind
      refine A_call (out := ?o_eF5) (hp := ?p_eF5) ?c_eF5 ?d_eF5 ?_
      case c_eF5 => exact ih x eF5
      case d_eF5 => rfl
      refine A_ops_end ?_
      refine w_n ?_
      refine w_ret ?_
      obtain rfl := hD _ hr
      exact (A_endR (A_cut (os' := []) (sl := [(2, .cv (.val (.int .i64 (IntKind.i64.wrap ((1 : Int) + r1)))))]) hwf) ⟨rfl, on_nil hwf⟩)
theorem syntax_ends_runs (n : TNode) {h : Heap} {a : Int} (e : syntax_ends n = some a) :
    Runs CT 125 [.cv (.val (.agg [.int .i64 n.Kind, .int .i64 n.Set, .sl (List.map eNode n.Kids)]))] h fun o h' => o = [.cv (.val (.int .i64 a))] ∧ h' = h := by
  obtain ⟨fuN, fuH⟩ := lim_some e
  exact syntax_ends_runs_r fuN n (fuH fuN (Nat.le_refl fuN))
end Go.Val

/- part LW124 -/
/- (*scansion/syntax.parser).number runs as it is read off. -/
namespace Go.Val
set_option maxRecDepth 20000
open Go.Proofs
theorem syntax_parser_number_runs (p : Tsyntax_parser) (s : List TRange) (l0 : Nat) (l0m3 : Nat) {h : Heap} (ha0 : h.at_ l0 = some (.cells [.val (.sl (List.map eToken p.tokens.list)), .val (.int .i64 p.tokens.place), .val (.int .i64 p.tokens.fault), .val (.map (some (l0m3))), .row 35 (List.map (eL eRange) p.program.Sets), .row 40 (List.map eRule p.program.Rules)])) (ha0m3 : h.at_ l0m3 = some (.map 9 (encM eS (eL eRange) p.names))) (hn0_0m3 : l0 ≠ l0m3) {a : (Int × Tsyntax_parser)} (e : syntax_parser_number p s = some a) :
    Runs CT 124 [.cv (.val (.ptr (some (l0, 0)))), .cv (.val (.sl (List.map eRange s)))] h fun o h' => o = [.cv (.val (.int .i64 a.1))] ∧ h' = ((h.upd l0 (.cells [.val (.sl (List.map eToken a.2.tokens.list)), .val (.int .i64 a.2.tokens.place), .val (.int .i64 a.2.tokens.fault), .val (.map (some (l0m3))), .row 35 (List.map (eL eRange) a.2.program.Sets), .row 40 (List.map eRule a.2.program.Rules)])).upd l0m3 (.map 9 (encM eS (eL eRange) a.2.names))) := by
  refine Runs.start Tryz.f124 _ Tryz.func124 rfl (by rw [Tryz.ntmps124]; simp) (by rfl) (by rfl) (fun hwf hu => ?_)
  have hl0 := (hwf _ _ ha0).1
  have kl0 := locF hl0
  have hl0m3 := (hwf _ _ ha0m3).1
  have kl0m3 := locF hl0m3
  have ku0 := updF hl0 ha0
  have ku0m3 := updF hl0m3 ha0m3
  have kp0_0m3 := updP hn0_0m3
  have kk0_0m3 := keepF hn0_0m3 ha0m3
  obtain ⟨D, hD, hr⟩ : ∃ D : (Int × Tsyntax_parser) → Prop, (∀ z, D z → z = a) ∧ Holds (syntax_parser_number p s) D := ⟨fun z => z = a, fun _ h => h, Holds.intro e rfl⟩
  dsimp only [syntax_parser_number] at hr
  change wpCode _ _ _ _ _ ⟨[(0, .cv (.val (.ptr (some (l0, 0))))), (1, .cv (.val (.sl (List.map eRange s))))], h.on []⟩
  refine w_seq ?_
  refine A_region ?_
  refine w_n ?_
  refine w_seq ?_
  refine A_region ?_
  refine w_n ?_
  refine w_seq ?_
  refine A_ops ?_
  refine A_upto 6 ?_
  obtain ⟨r, eF1, hr⟩ := hr.bind
  refine w_look rfl (by simp (disch := (apply Apart.mk; decide)) only [go_sem, Nat.reduceAdd, Nat.reduceLT, Nat.reduceMul, Nat.reduceLeDiff, Int.reduceToNat, Int.reduceLT, Int.reduceLE, ha0, on_atB hl0, lt_add hl0, lt_at hl0, ha0m3, on_atB hl0m3, lt_add hl0m3, lt_at hl0m3, on_updB hl0, on_atU hl0, on_updU hl0, upd_same ha0, on_updB hl0m3, on_atU hl0m3, on_updU hl0m3, upd_same ha0m3, upd_ne hn0_0m3, upd_ne (Ne.symm hn0_0m3), upd_swap hn0_0m3, on_atUU hl0, on_atUU hl0m3, on_updUU hl0, on_updUU hl0m3, upd_keep hn0_0m3 ha0m3, Option.getD_some]; rfl) (by simp (disch := (apply Apart.mk; decide)) only [go_sem, Nat.reduceAdd, Nat.reduceLT, Nat.reduceMul, Nat.reduceLeDiff, Int.reduceToNat, Int.reduceLT, Int.reduceLE, ha0, on_atB hl0, lt_add hl0, lt_at hl0, ha0m3, on_atB hl0m3, lt_add hl0m3, lt_at hl0m3, on_updB hl0, on_atU hl0, on_updU hl0, upd_same ha0, on_updB hl0m3, on_atU hl0m3, on_updU hl0m3, upd_same ha0m3, upd_ne hn0_0m3, upd_ne (Ne.symm hn0_0m3), upd_swap hn0_0m3, on_atUU hl0, on_atUU hl0m3, on_updUU hl0, on_updUU hl0m3, upd_keep hn0_0m3 ha0m3, Option.getD_some]; rfl) (by exact look_find (by simp (disch := (apply Apart.mk; decide)) only [go_sem, Nat.reduceAdd, Nat.reduceLT, ha0, on_atB hl0, lt_add hl0, lt_at hl0, ha0m3, on_atB hl0m3, lt_add hl0m3, lt_at hl0m3, on_updB hl0, on_atU hl0, on_updU hl0, upd_same ha0, on_updB hl0m3, on_atU hl0m3, on_updU hl0m3, upd_same ha0m3, upd_ne hn0_0m3, upd_ne (Ne.symm hn0_0m3), upd_swap hn0_0m3, on_atUU hl0, on_atUU hl0m3, on_updUU hl0, on_updUU hl0m3, upd_keep hn0_0m3 ha0m3]) eF1) rfl rfl ?_
  refine A_ops_end ?_
  refine w_n ?_
  refine w_seq ?_
  refine w_block ?_
  refine w_seq ?_
  refine A_region ?_
  refine w_n ?_
  refine A_condH hr (fun cF2 hr => ?_) (fun cF2 hr => ?_)
  · refine w_seq ?_
    refine A_region ?_
    refine w_n ?_
    refine w_ret ?_
    obtain rfl := hD _ hr
    exact (w_br (w_tr (A_endR (A_cut (os' := []) (sl := [(4, .cv (.val (.int .i64 r)))]) (h := ((h.upd l0 (.cells [.val (.sl (List.map eToken p.tokens.list)), .val (.int .i64 p.tokens.place), .val (.int .i64 p.tokens.fault), .val (.map (some (l0m3))), .row 35 (List.map (eL eRange) p.program.Sets), .row 40 (List.map eRule p.program.Rules)])).upd l0m3 (.map 9 (encM eS (eL eRange) p.names)))) (A_wf (A_wf hwf hl0) hl0m3)) ⟨rfl, on_nil (A_wf (A_wf hwf hl0) hl0m3)⟩)))
  · refine w_seq ?_
    refine A_region ?_
    refine w_n ?_
    refine A_condH hr (fun cF3 hr => ?_) (fun cF3 hr => ?_)
    · refine w_seq ?_
      refine A_ops ?_
      refine A_upto 3 ?_
      obtain ⟨r1, eF4, hr⟩ := hr.bind
      refine A_call (out := ?o_eF4) (hp := ?p_eF4) ?c_eF4 ?d_eF4 ?_
      case c_eF4 => (refine syntax_tokens_fail_runs p (3 : Int) (l0) (l0m3) ?_ ?_ ?_ eF4; exact A_hat; exact A_hat; exact A_ne)
      case d_eF4 => rfl
      refine w_ops_nil ?_
      refine w_n ?_
      refine w_seq ?_
      refine A_region ?_
      refine w_n ?_
      refine w_ret ?_
      obtain rfl := hD _ hr
      exact (w_br (w_tr (A_endR (A_cut (os' := []) (sl := [(4, .cv (.val (.int .i64 (0 : Int))))]) (h := ((h.upd l0 (.cells [.val (.sl (List.map eToken r1.tokens.list)), .val (.int .i64 r1.tokens.place), .val (.int .i64 r1.tokens.fault), .val (.map (some (l0m3))), .row 35 (List.map (eL eRange) r1.program.Sets), .row 40 (List.map eRule r1.program.Rules)])).upd l0m3 (.map 9 (encM eS (eL eRange) r1.names)))) (A_wf (A_wf hwf hl0) hl0m3)) ⟨rfl, on_nil (A_wf (A_wf hwf hl0) hl0m3)⟩)))
    · refine w_skip ?_
      refine (w_bn (w_n ?_))
      refine w_seq ?_
      refine w_drawn [0, 1, 2, 3, 4, 5, 6, 7, 8, 9, 10, 11, 12] (by rfl) ?_
      obtain ⟨nF5, hr⟩ := hr.room
      refine A_prun [0, 1, 2, 3, 4, 5, 6, 7] [7, 6, 5, 4, 3, 2, 1, 0] ?_
      refine A_pop [0] ?_
      refine A_prun [9, 10, 11] [11, 10, 9, 0] ?_
      refine A_pop [] ?_
      refine A_pend ?_
      refine w_n ?_
      refine w_seq ?_
      refine A_region ?_
      refine w_n ?_
      refine w_ret ?_
      obtain rfl := hD _ hr
      exact (A_endR (A_cut (os' := []) (sl := [(4, .cv (.val (.int .i64 (IntKind.i64.wrap (((p.program.Sets ++ ([s])).length : Int) - (1 : Int))))))]) (h := ((h.upd l0 (.cells [.val (.sl (List.map eToken p.tokens.list)), .val (.int .i64 p.tokens.place), .val (.int .i64 p.tokens.fault), .val (.map (some (l0m3))), .row 35 (List.map (eL eRange) (p.program.Sets ++ ([s]))), .row 40 (List.map eRule p.program.Rules)])).upd l0m3 (.map 9 (encM eS (eL eRange) p.names)))) (A_wf (A_wf hwf hl0) hl0m3)) ⟨rfl, on_nil (A_wf (A_wf hwf hl0) hl0m3)⟩)
end Go.Val

/- part LW123 -/
/- syntax.closed at nodes: by hand. -/
namespace Go.Val
set_option maxRecDepth 20000
open Go.Proofs
theorem syntax_closed_api_Node_runs (l l2 : Nat) {h : Heap} :
    Runs CT 123 [.cv (.val (.ptr (some (l, 0)))), .cv (.val (.fn 50 [.ptr (some (l2, 0))] []))] h fun o h' => o = [.cv (.val (.fn 135 [] [.ptr (some (h.n + 1, 0)), .ptr (some (h.n + 0, 0))]))] ∧ h' = h.on [some (.cells [.val (.ptr (some (l, 0)))]), some (.cells [.val (.fn 50 [.ptr (some (l2, 0))] [])])] := by
  refine Runs.start Tryz.f123 _ Tryz.func123 rfl (by rw [Tryz.ntmps123]; simp) (by rfl) (by rfl) (fun hwf hu => ?_)
  have q1 : l < h.n + 2 := Nat.lt_of_lt_of_le (hu (.cv (.val (.ptr (some (l, 0))))) (by simp)) (Nat.le_add_right _ _)
  have q2 : l2 < h.n + 2 := Nat.lt_of_lt_of_le (hu (.cv (.val (.fn 50 [.ptr (some (l2, 0))] []))) (by simp)).1.1 (Nat.le_add_right _ _)
  change wpCode _ _ _ _ _ ⟨[(0, .cv (.val (.ptr (some (l, 0))))), (1, .cv (.val (.fn 50 [.ptr (some (l2, 0))] [])))], h.on []⟩
  refine w_seq ?_
  refine A_region ?_
  refine w_n ?_
  refine w_seq ?_
  refine A_region ?_
  refine w_n ?_
  refine w_ret ?_
  exact (A_endR (To.cut (os' := [some (.cells [.val (.ptr (some (l, 0)))]), some (.cells [.val (.fn 50 [.ptr (some (l2, 0))] [])])]) (sl := [(4, .cv (.val (.fn 135 [] [.ptr (some (h.n + 1, 0)), .ptr (some (h.n + 0, 0))])))]) hwf (Nat.le_refl _) rfl (by simp (disch := (apply Apart.mk; decide)) only [go_sem, Nat.reduceAdd, Nat.reduceLT, Nat.reduceMul, Nat.reduceLeDiff, q1, q2, and_self])) ⟨rfl, rfl⟩)
end Go.Val

/- part LW135 -/
/- scansion/syntax.closed[scansion/api.Node]$1 runs as it is read off. -/
namespace Go.Val
set_option maxRecDepth 20000
open Go.Proofs
theorem syntax_closed_api_Node_1_runs (self : Tsyntax_parser → Int → Option ((TNode × Tsyntax_parser))) (depth : Int) (p : Tsyntax_parser) (l1c : Nat) (l2c : Nat) (lp : Nat) (lpm3 : Nat) {h : Heap} (hself : ∀ (p : Tsyntax_parser) (depth : Int) (l0 : Nat) (l0m3 : Nat) {h : Heap} (ha0 : h.at_ l0 = some (.cells [.val (.sl (List.map eToken p.tokens.list)), .val (.int .i64 p.tokens.place), .val (.int .i64 p.tokens.fault), .val (.map (some (l0m3))), .row 35 (List.map (eL eRange) p.program.Sets), .row 40 (List.map eRule p.program.Rules)])) (ha0m3 : h.at_ l0m3 = some (.map 9 (encM eS (eL eRange) p.names))) (hn0_0m3 : l0 ≠ l0m3) {a : (TNode × Tsyntax_parser)} (e : self p depth = some a),
    Runs CT 50 [.cv (.val (.ptr (some (l0, 0)))), .cv (.val (.int .i64 depth))] h fun o h' => o = [.cv (.val (.agg [.int .i64 a.1.Kind, .int .i64 a.1.Set, .sl (List.map eNode a.1.Kids)]))] ∧ h' = ((h.upd l0 (.cells [.val (.sl (List.map eToken a.2.tokens.list)), .val (.int .i64 a.2.tokens.place), .val (.int .i64 a.2.tokens.fault), .val (.map (some (l0m3))), .row 35 (List.map (eL eRange) a.2.program.Sets), .row 40 (List.map eRule a.2.program.Rules)])).upd l0m3 (.map 9 (encM eS (eL eRange) a.2.names)))) (ha1c : h.at_ l1c = some (.cells [.val (.fn 50 [.ptr (some (lp, 0))] [])])) (ha2c : h.at_ l2c = some (.cells [.val (.ptr (some (lp, 0)))])) (hap : h.at_ lp = some (.cells [.val (.sl (List.map eToken p.tokens.list)), .val (.int .i64 p.tokens.place), .val (.int .i64 p.tokens.fault), .val (.map (some (lpm3))), .row 35 (List.map (eL eRange) p.program.Sets), .row 40 (List.map eRule p.program.Rules)])) (hapm3 : h.at_ lpm3 = some (.map 9 (encM eS (eL eRange) p.names))) (hn1c_2c : l1c ≠ l2c) (hn1c_p : l1c ≠ lp) (hn1c_pm3 : l1c ≠ lpm3) (hn2c_p : l2c ≠ lp) (hn2c_pm3 : l2c ≠ lpm3) (hnp_pm3 : lp ≠ lpm3) {a : (TNode × Tsyntax_parser)} (e : syntax_closed_api_Node_1 self depth p = some a) :
    Runs CT 135 [.cv (.val (.int .i64 depth)), .cv (.val (.ptr (some (l1c, 0)))), .cv (.val (.ptr (some (l2c, 0))))] h fun o h' => o = [.cv (.val (.agg [.int .i64 a.1.Kind, .int .i64 a.1.Set, .sl (List.map eNode a.1.Kids)]))] ∧ h' = ((h.upd lp (.cells [.val (.sl (List.map eToken a.2.tokens.list)), .val (.int .i64 a.2.tokens.place), .val (.int .i64 a.2.tokens.fault), .val (.map (some (lpm3))), .row 35 (List.map (eL eRange) a.2.program.Sets), .row 40 (List.map eRule a.2.program.Rules)])).upd lpm3 (.map 9 (encM eS (eL eRange) a.2.names))) := by
  refine Runs.start Tryz.f135 _ Tryz.func135 rfl (by rw [Tryz.ntmps135]; simp) (by rfl) (by rfl) (fun hwf hu => ?_)
  have hl1c := (hwf _ _ ha1c).1
  have kl1c := locF hl1c
  have hl2c := (hwf _ _ ha2c).1
  have kl2c := locF hl2c
  have hlp := (hwf _ _ hap).1
  have klp := locF hlp
  have hlpm3 := (hwf _ _ hapm3).1
  have klpm3 := locF hlpm3
  have ku1c := updF hl1c ha1c
  have ku2c := updF hl2c ha2c
  have kup := updF hlp hap
  have kupm3 := updF hlpm3 hapm3
  have kp1c_2c := updP hn1c_2c
  have kp1c_p := updP hn1c_p
  have kp1c_pm3 := updP hn1c_pm3
  have kp2c_p := updP hn2c_p
  have kp2c_pm3 := updP hn2c_pm3
  have kpp_pm3 := updP hnp_pm3
  have kkp_pm3 := keepF hnp_pm3 hapm3
  obtain ⟨D, hD, hr⟩ : ∃ D : (TNode × Tsyntax_parser) → Prop, (∀ z, D z → z = a) ∧ Holds (syntax_closed_api_Node_1 self depth p) D := ⟨fun z => z = a, fun _ h => h, Holds.intro e rfl⟩
  dsimp only [syntax_closed_api_Node_1] at hr
  change wpCode _ _ _ _ _ ⟨[(0, .cv (.val (.int .i64 depth))), (1, .cv (.val (.ptr (some (l1c, 0))))), (2, .cv (.val (.ptr (some (l2c, 0)))))], h.on []⟩
  refine w_seq ?_
  refine A_region ?_
  refine w_n ?_
  refine w_seq ?_
  refine A_ops ?_
  refine A_upto 2 ?_
  obtain ⟨r, eF1, hr⟩ := hr.bind
  refine A_call (out := ?o_eF1) (hp := ?p_eF1) ?c_eF1 ?d_eF1 ?_
  case c_eF1 => (refine hself p depth (lp) (lpm3) ?_ ?_ ?_ eF1; exact A_hat; exact A_hat; exact A_ne)
  case d_eF1 => rfl
  refine A_ops_end ?_
  refine w_n ?_
  refine w_seq ?_
  refine A_ops ?_
  refine A_upto 3 ?_
  obtain ⟨r1, eF2, hr⟩ := hr.bind
  refine A_call (out := ?o_eF2) (hp := ?p_eF2) ?c_eF2 ?d_eF2 ?_
  case c_eF2 => (refine syntax_tokens_take_runs r.2 ([41] : Str) (lp) (lpm3) ?_ ?_ ?_ eF2; exact A_hat; exact A_hat; exact A_ne)
  case d_eF2 => rfl
  refine w_ops_nil ?_
  refine w_n ?_
  refine w_seq ?_
  refine A_region ?_
  refine w_n ?_
  refine w_ret ?_
  obtain rfl := hD _ hr
  exact (w_endRD (A_cut (os' := [some (.cells [.val (.int .i64 r.1.Kind), .val (.int .i64 r.1.Set), .val (.sl (List.map eNode r.1.Kids))])]) (sl := [(4, .cv (.val (.ptr (some (h.n + 0, 0)))))]) (h := ((h.upd lp (.cells [.val (.sl (List.map eToken r1.tokens.list)), .val (.int .i64 r1.tokens.place), .val (.int .i64 r1.tokens.fault), .val (.map (some (lpm3))), .row 35 (List.map (eL eRange) r1.program.Sets), .row 40 (List.map eRule r1.program.Rules)])).upd lpm3 (.map 9 (encM eS (eL eRange) r1.names)))) (A_wf (A_wf hwf hlp) hlpm3)) (by simp (disch := (apply Apart.mk; decide)) only [go_sem, Nat.reduceAdd, Nat.reduceLT, Nat.reduceMul, Nat.reduceLeDiff, Int.reduceToNat, Int.reduceLT, Int.reduceLE, ha1c, on_atB hl1c, lt_add hl1c, lt_at hl1c, ha2c, on_atB hl2c, lt_add hl2c, lt_at hl2c, hap, on_atB hlp, lt_add hlp, lt_at hlp, hapm3, on_atB hlpm3, lt_add hlpm3, lt_at hlpm3, on_updB hl1c, on_atU hl1c, on_updU hl1c, upd_same ha1c, on_updB hl2c, on_atU hl2c, on_updU hl2c, upd_same ha2c, on_updB hlp, on_atU hlp, on_updU hlp, upd_same hap, on_updB hlpm3, on_atU hlpm3, on_updU hlpm3, upd_same hapm3, upd_ne hn1c_2c, upd_ne (Ne.symm hn1c_2c), upd_swap hn1c_2c, on_atUU hl1c, on_atUU hl2c, on_updUU hl1c, on_updUU hl2c, upd_ne hn1c_p, upd_ne (Ne.symm hn1c_p), upd_swap hn1c_p, on_atUU hlp, on_updUU hlp, upd_ne hn1c_pm3, upd_ne (Ne.symm hn1c_pm3), upd_swap hn1c_pm3, on_atUU hlpm3, on_updUU hlpm3, upd_ne hn2c_p, upd_ne (Ne.symm hn2c_p), upd_swap hn2c_p, upd_ne hn2c_pm3, upd_ne (Ne.symm hn2c_pm3), upd_swap hn2c_pm3, upd_ne hnp_pm3, upd_ne (Ne.symm hnp_pm3), upd_swap hnp_pm3, upd_keep hnp_pm3 hapm3, Tryz.results135, results_data CT_gives135, resCell, resVal.eq_2, loadOp_sv]) (Drops.on (h := ((h.upd lp (.cells [.val (.sl (List.map eToken r1.tokens.list)), .val (.int .i64 r1.tokens.place), .val (.int .i64 r1.tokens.fault), .val (.map (some (lpm3))), .row 35 (List.map (eL eRange) r1.program.Sets), .row 40 (List.map eRule r1.program.Rules)])).upd lpm3 (.map 9 (encM eS (eL eRange) r1.names)))) (os := [some (.cells [.val (.int .i64 r.1.Kind), .val (.int .i64 r.1.Set), .val (.sl (List.map eNode r.1.Kids))])]) (os' := []) (A_wf (A_wf hwf hlp) hlpm3) (Nat.le_refl _) (by simp (disch := (apply Apart.mk; decide)) only [go_sem, Nat.reduceAdd, Nat.reduceLT, Nat.reduceMul, Nat.reduceLeDiff, Int.reduceToNat, Int.reduceLT, Int.reduceLE, ha1c, on_atB hl1c, lt_add hl1c, lt_at hl1c, ha2c, on_atB hl2c, lt_add hl2c, lt_at hl2c, hap, on_atB hlp, lt_add hlp, lt_at hlp, hapm3, on_atB hlpm3, lt_add hlpm3, lt_at hlpm3, on_updB hl1c, on_atU hl1c, on_updU hl1c, upd_same ha1c, on_updB hl2c, on_atU hl2c, on_updU hl2c, upd_same ha2c, on_updB hlp, on_atU hlp, on_updU hlp, upd_same hap, on_updB hlpm3, on_atU hlpm3, on_updU hlpm3, upd_same hapm3, upd_ne hn1c_2c, upd_ne (Ne.symm hn1c_2c), upd_swap hn1c_2c, on_atUU hl1c, on_atUU hl2c, on_updUU hl1c, on_updUU hl2c, upd_ne hn1c_p, upd_ne (Ne.symm hn1c_p), upd_swap hn1c_p, on_atUU hlp, on_updUU hlp, upd_ne hn1c_pm3, upd_ne (Ne.symm hn1c_pm3), upd_swap hn1c_pm3, on_atUU hlpm3, on_updUU hlpm3, upd_ne hn2c_p, upd_ne (Ne.symm hn2c_p), upd_swap hn2c_p, upd_ne hn2c_pm3, upd_ne (Ne.symm hn2c_pm3), upd_swap hn2c_pm3, upd_ne hnp_pm3, upd_ne (Ne.symm hnp_pm3), upd_swap hnp_pm3, upd_keep hnp_pm3 hapm3])) ⟨rfl, on_nil (h := ((h.upd lp (.cells [.val (.sl (List.map eToken r1.tokens.list)), .val (.int .i64 r1.tokens.place), .val (.int .i64 r1.tokens.fault), .val (.map (some (lpm3))), .row 35 (List.map (eL eRange) r1.program.Sets), .row 40 (List.map eRule r1.program.Rules)])).upd lpm3 (.map 9 (encM eS (eL eRange) r1.names)))) (A_wf (A_wf hwf hlp) hlpm3)⟩)
end Go.Val

/- part LW122 -/
/- scansion/syntax.deeper[scansion/api.Node] runs as it is read off. -/
namespace Go.Val
set_option maxRecDepth 20000
open Go.Proofs
theorem syntax_deeper_api_Node_runs (self : Tsyntax_parser → Int → Option ((TNode × Tsyntax_parser))) (p : Tsyntax_parser) (depth : Int) (l0 : Nat) (l0m3 : Nat) (l2c0 : Nat) (l2c1 : Nat) {h : Heap} (hself : ∀ (p : Tsyntax_parser) (depth : Int) (l0 : Nat) (l0m3 : Nat) {h : Heap} (ha0 : h.at_ l0 = some (.cells [.val (.sl (List.map eToken p.tokens.list)), .val (.int .i64 p.tokens.place), .val (.int .i64 p.tokens.fault), .val (.map (some (l0m3))), .row 35 (List.map (eL eRange) p.program.Sets), .row 40 (List.map eRule p.program.Rules)])) (ha0m3 : h.at_ l0m3 = some (.map 9 (encM eS (eL eRange) p.names))) (hn0_0m3 : l0 ≠ l0m3) {a : (TNode × Tsyntax_parser)} (e : self p depth = some a),
    Runs CT 50 [.cv (.val (.ptr (some (l0, 0)))), .cv (.val (.int .i64 depth))] h fun o h' => o = [.cv (.val (.agg [.int .i64 a.1.Kind, .int .i64 a.1.Set, .sl (List.map eNode a.1.Kids)]))] ∧ h' = ((h.upd l0 (.cells [.val (.sl (List.map eToken a.2.tokens.list)), .val (.int .i64 a.2.tokens.place), .val (.int .i64 a.2.tokens.fault), .val (.map (some (l0m3))), .row 35 (List.map (eL eRange) a.2.program.Sets), .row 40 (List.map eRule a.2.program.Rules)])).upd l0m3 (.map 9 (encM eS (eL eRange) a.2.names)))) (ha0 : h.at_ l0 = some (.cells [.val (.sl (List.map eToken p.tokens.list)), .val (.int .i64 p.tokens.place), .val (.int .i64 p.tokens.fault), .val (.map (some (l0m3))), .row 35 (List.map (eL eRange) p.program.Sets), .row 40 (List.map eRule p.program.Rules)])) (ha0m3 : h.at_ l0m3 = some (.map 9 (encM eS (eL eRange) p.names))) (ha2c0 : h.at_ l2c0 = some (.cells [.val (.fn 50 [.ptr (some (l0, 0))] [])])) (ha2c1 : h.at_ l2c1 = some (.cells [.val (.ptr (some (l0, 0)))])) (hn0_0m3 : l0 ≠ l0m3) (hn0_2c0 : l0 ≠ l2c0) (hn0_2c1 : l0 ≠ l2c1) (hn0m3_2c0 : l0m3 ≠ l2c0) (hn0m3_2c1 : l0m3 ≠ l2c1) (hn2c0_2c1 : l2c0 ≠ l2c1) {a : (TNode × Tsyntax_parser)} (e : syntax_deeper_api_Node self p depth = some a) :
    Runs CT 122 [.cv (.val (.ptr (some (l0, 0)))), .cv (.val (.int .i64 depth)), .cv (.val (.fn 135 [] [.ptr (some (l2c0, 0)), .ptr (some (l2c1, 0))]))] h fun o h' => o = [.cv (.val (.agg [.int .i64 a.1.Kind, .int .i64 a.1.Set, .sl (List.map eNode a.1.Kids)]))] ∧ h' = ((h.upd l0 (.cells [.val (.sl (List.map eToken a.2.tokens.list)), .val (.int .i64 a.2.tokens.place), .val (.int .i64 a.2.tokens.fault), .val (.map (some (l0m3))), .row 35 (List.map (eL eRange) a.2.program.Sets), .row 40 (List.map eRule a.2.program.Rules)])).upd l0m3 (.map 9 (encM eS (eL eRange) a.2.names))) := by
  refine Runs.start Tryz.f122 _ Tryz.func122 rfl (by rw [Tryz.ntmps122]; simp) (by rfl) (by rfl) (fun hwf hu => ?_)
  have hl0 := (hwf _ _ ha0).1
  have kl0 := locF hl0
  have hl0m3 := (hwf _ _ ha0m3).1
  have kl0m3 := locF hl0m3
  have hl2c0 := (hwf _ _ ha2c0).1
  have kl2c0 := locF hl2c0
  have hl2c1 := (hwf _ _ ha2c1).1
  have kl2c1 := locF hl2c1
  have ku0 := updF hl0 ha0
  have ku0m3 := updF hl0m3 ha0m3
  have ku2c0 := updF hl2c0 ha2c0
  have ku2c1 := updF hl2c1 ha2c1
  have kp0_0m3 := updP hn0_0m3
  have kp0_2c0 := updP hn0_2c0
  have kp0_2c1 := updP hn0_2c1
  have kp0m3_2c0 := updP hn0m3_2c0
  have kp0m3_2c1 := updP hn0m3_2c1
  have kp2c0_2c1 := updP hn2c0_2c1
  have kk0_0m3 := keepF hn0_0m3 ha0m3
  obtain ⟨D, hD, hr⟩ : ∃ D : (TNode × Tsyntax_parser) → Prop, (∀ z, D z → z = a) ∧ Holds (syntax_deeper_api_Node self p depth) D := ⟨fun z => z = a, fun _ h => h, Holds.intro e rfl⟩
  dsimp only [syntax_deeper_api_Node] at hr
  change wpCode _ _ _ _ _ ⟨[(0, .cv (.val (.ptr (some (l0, 0))))), (1, .cv (.val (.int .i64 depth))), (2, .cv (.val (.fn 135 [] [.ptr (some (l2c0, 0)), .ptr (some (l2c1, 0))])))], h.on []⟩
  refine w_seq ?_
  refine A_region ?_
  refine w_n ?_
  refine w_seq ?_
  refine w_seq ?_
  refine A_region ?_
  refine w_n ?_
  refine A_condH hr (fun cF1 hr => ?_) (fun cF1 hr => ?_)
  · refine w_seq ?_
    refine A_ops ?_
    refine A_upto 3 ?_
    obtain ⟨r, eF2, hr⟩ := hr.bind
    refine A_call (out := ?o_eF2) (hp := ?p_eF2) ?c_eF2 ?d_eF2 ?_
    case c_eF2 => (refine syntax_tokens_fail_runs p (3 : Int) (l0) (l0m3) ?_ ?_ ?_ eF2; exact A_hat; exact A_hat; exact A_ne)
    case d_eF2 => rfl
    refine w_ops_nil ?_
    refine w_n ?_
    refine w_seq ?_
    refine A_region ?_
    refine w_n ?_
    refine w_ret ?_
    obtain rfl := hD _ hr
    exact (w_tr (w_endRD (A_cut (os' := [some (.cells [.val (.int .i64 (TNode.mk (0 : Int) (0 : Int) []).Kind), .val (.int .i64 (TNode.mk (0 : Int) (0 : Int) []).Set), .val (.sl (List.map eNode (TNode.mk (0 : Int) (0 : Int) []).Kids))])]) (sl := [(6, .cv (.val (.ptr (some (h.n + 0, 0)))))]) (h := ((h.upd l0 (.cells [.val (.sl (List.map eToken r.tokens.list)), .val (.int .i64 r.tokens.place), .val (.int .i64 r.tokens.fault), .val (.map (some (l0m3))), .row 35 (List.map (eL eRange) r.program.Sets), .row 40 (List.map eRule r.program.Rules)])).upd l0m3 (.map 9 (encM eS (eL eRange) r.names)))) (A_wf (A_wf hwf hl0) hl0m3)) (by simp (disch := (apply Apart.mk; decide)) only [go_sem, Nat.reduceAdd, Nat.reduceLT, Nat.reduceMul, Nat.reduceLeDiff, Int.reduceToNat, Int.reduceLT, Int.reduceLE, ha0, on_atB hl0, lt_add hl0, lt_at hl0, ha0m3, on_atB hl0m3, lt_add hl0m3, lt_at hl0m3, ha2c0, on_atB hl2c0, lt_add hl2c0, lt_at hl2c0, ha2c1, on_atB hl2c1, lt_add hl2c1, lt_at hl2c1, on_updB hl0, on_atU hl0, on_updU hl0, upd_same ha0, on_updB hl0m3, on_atU hl0m3, on_updU hl0m3, upd_same ha0m3, on_updB hl2c0, on_atU hl2c0, on_updU hl2c0, upd_same ha2c0, on_updB hl2c1, on_atU hl2c1, on_updU hl2c1, upd_same ha2c1, upd_ne hn0_0m3, upd_ne (Ne.symm hn0_0m3), upd_swap hn0_0m3, on_atUU hl0, on_atUU hl0m3, on_updUU hl0, on_updUU hl0m3, upd_ne hn0_2c0, upd_ne (Ne.symm hn0_2c0), upd_swap hn0_2c0, on_atUU hl2c0, on_updUU hl2c0, upd_ne hn0_2c1, upd_ne (Ne.symm hn0_2c1), upd_swap hn0_2c1, on_atUU hl2c1, on_updUU hl2c1, upd_ne hn0m3_2c0, upd_ne (Ne.symm hn0m3_2c0), upd_swap hn0m3_2c0, upd_ne hn0m3_2c1, upd_ne (Ne.symm hn0m3_2c1), upd_swap hn0m3_2c1, upd_ne hn2c0_2c1, upd_ne (Ne.symm hn2c0_2c1), upd_swap hn2c0_2c1, upd_keep hn0_0m3 ha0m3, Tryz.results122, results_data CT_gives122, resCell, resVal.eq_2, loadOp_sv, cF1]) (Drops.on (h := ((h.upd l0 (.cells [.val (.sl (List.map eToken r.tokens.list)), .val (.int .i64 r.tokens.place), .val (.int .i64 r.tokens.fault), .val (.map (some (l0m3))), .row 35 (List.map (eL eRange) r.program.Sets), .row 40 (List.map eRule r.program.Rules)])).upd l0m3 (.map 9 (encM eS (eL eRange) r.names)))) (os := [some (.cells [.val (.int .i64 (TNode.mk (0 : Int) (0 : Int) []).Kind), .val (.int .i64 (TNode.mk (0 : Int) (0 : Int) []).Set), .val (.sl (List.map eNode (TNode.mk (0 : Int) (0 : Int) []).Kids))])]) (os' := []) (A_wf (A_wf hwf hl0) hl0m3) (Nat.le_refl _) (by simp (disch := (apply Apart.mk; decide)) only [go_sem, Nat.reduceAdd, Nat.reduceLT, Nat.reduceMul, Nat.reduceLeDiff, Int.reduceToNat, Int.reduceLT, Int.reduceLE, ha0, on_atB hl0, lt_add hl0, lt_at hl0, ha0m3, on_atB hl0m3, lt_add hl0m3, lt_at hl0m3, ha2c0, on_atB hl2c0, lt_add hl2c0, lt_at hl2c0, ha2c1, on_atB hl2c1, lt_add hl2c1, lt_at hl2c1, on_updB hl0, on_atU hl0, on_updU hl0, upd_same ha0, on_updB hl0m3, on_atU hl0m3, on_updU hl0m3, upd_same ha0m3, on_updB hl2c0, on_atU hl2c0, on_updU hl2c0, upd_same ha2c0, on_updB hl2c1, on_atU hl2c1, on_updU hl2c1, upd_same ha2c1, upd_ne hn0_0m3, upd_ne (Ne.symm hn0_0m3), upd_swap hn0_0m3, on_atUU hl0, on_atUU hl0m3, on_updUU hl0, on_updUU hl0m3, upd_ne hn0_2c0, upd_ne (Ne.symm hn0_2c0), upd_swap hn0_2c0, on_atUU hl2c0, on_updUU hl2c0, upd_ne hn0_2c1, upd_ne (Ne.symm hn0_2c1), upd_swap hn0_2c1, on_atUU hl2c1, on_updUU hl2c1, upd_ne hn0m3_2c0, upd_ne (Ne.symm hn0m3_2c0), upd_swap hn0m3_2c0, upd_ne hn0m3_2c1, upd_ne (Ne.symm hn0m3_2c1), upd_swap hn0m3_2c1, upd_ne hn2c0_2c1, upd_ne (Ne.symm hn2c0_2c1), upd_swap hn2c0_2c1, upd_keep hn0_0m3 ha0m3, cF1])) ⟨rfl, on_nil (h := ((h.upd l0 (.cells [.val (.sl (List.map eToken r.tokens.list)), .val (.int .i64 r.tokens.place), .val (.int .i64 r.tokens.fault), .val (.map (some (l0m3))), .row 35 (List.map (eL eRange) r.program.Sets), .row 40 (List.map eRule r.program.Rules)])).upd l0m3 (.map 9 (encM eS (eL eRange) r.names)))) (A_wf (A_wf hwf hl0) hl0m3)⟩))
  · refine w_skip ?_
    refine w_n ?_
    refine w_seq ?_
    refine A_region ?_
    refine w_n ?_
    refine w_seq ?_
    refine A_ops ?_
    refine A_upto 3 ?_
    obtain ⟨r1, eF3, hr⟩ := hr.bind
    refine A_call (out := ?o_eF3) (hp := ?p_eF3) ?c_eF3 ?d_eF3 ?_
    case c_eF3 => (refine syntax_closed_api_Node_1_runs self (IntKind.i64.wrap (depth + (1 : Int))) (Tsyntax_parser.mk (Tsyntax_tokens.mk p.tokens.list (IntKind.i64.wrap (p.tokens.place + (1 : Int))) p.tokens.fault) p.names p.program) (l2c0) (l2c1) (l0) (l0m3) hself ?_ ?_ ?_ ?_ ?_ ?_ ?_ ?_ ?_ ?_ eF3; exact A_hat; exact A_hat; exact A_hat; exact A_hat; exact A_ne; exact A_ne; exact A_ne; exact A_ne; exact A_ne; exact A_ne)
    case d_eF3 => rfl
    refine A_ops_end ?_
    refine w_n ?_
    refine w_ret ?_
    obtain rfl := hD _ hr
    exact (w_endRD (A_cut (os' := [some (.cells [.val (.int .i64 r1.1.Kind), .val (.int .i64 r1.1.Set), .val (.sl (List.map eNode r1.1.Kids))])]) (sl := [(6, .cv (.val (.ptr (some (h.n + 0, 0)))))]) (h := ((h.upd l0 (.cells [.val (.sl (List.map eToken r1.2.tokens.list)), .val (.int .i64 r1.2.tokens.place), .val (.int .i64 r1.2.tokens.fault), .val (.map (some (l0m3))), .row 35 (List.map (eL eRange) r1.2.program.Sets), .row 40 (List.map eRule r1.2.program.Rules)])).upd l0m3 (.map 9 (encM eS (eL eRange) r1.2.names)))) (A_wf (A_wf hwf hl0) hl0m3)) (by simp (disch := (apply Apart.mk; decide)) only [go_sem, Nat.reduceAdd, Nat.reduceLT, Nat.reduceMul, Nat.reduceLeDiff, Int.reduceToNat, Int.reduceLT, Int.reduceLE, ha0, on_atB hl0, lt_add hl0, lt_at hl0, ha0m3, on_atB hl0m3, lt_add hl0m3, lt_at hl0m3, ha2c0, on_atB hl2c0, lt_add hl2c0, lt_at hl2c0, ha2c1, on_atB hl2c1, lt_add hl2c1, lt_at hl2c1, on_updB hl0, on_atU hl0, on_updU hl0, upd_same ha0, on_updB hl0m3, on_atU hl0m3, on_updU hl0m3, upd_same ha0m3, on_updB hl2c0, on_atU hl2c0, on_updU hl2c0, upd_same ha2c0, on_updB hl2c1, on_atU hl2c1, on_updU hl2c1, upd_same ha2c1, upd_ne hn0_0m3, upd_ne (Ne.symm hn0_0m3), upd_swap hn0_0m3, on_atUU hl0, on_atUU hl0m3, on_updUU hl0, on_updUU hl0m3, upd_ne hn0_2c0, upd_ne (Ne.symm hn0_2c0), upd_swap hn0_2c0, on_atUU hl2c0, on_updUU hl2c0, upd_ne hn0_2c1, upd_ne (Ne.symm hn0_2c1), upd_swap hn0_2c1, on_atUU hl2c1, on_updUU hl2c1, upd_ne hn0m3_2c0, upd_ne (Ne.symm hn0m3_2c0), upd_swap hn0m3_2c0, upd_ne hn0m3_2c1, upd_ne (Ne.symm hn0m3_2c1), upd_swap hn0m3_2c1, upd_ne hn2c0_2c1, upd_ne (Ne.symm hn2c0_2c1), upd_swap hn2c0_2c1, upd_keep hn0_0m3 ha0m3, Tryz.results122, results_data CT_gives122, resCell, resVal.eq_2, loadOp_sv, cF1]) (Drops.on (h := ((h.upd l0 (.cells [.val (.sl (List.map eToken r1.2.tokens.list)), .val (.int .i64 r1.2.tokens.place), .val (.int .i64 r1.2.tokens.fault), .val (.map (some (l0m3))), .row 35 (List.map (eL eRange) r1.2.program.Sets), .row 40 (List.map eRule r1.2.program.Rules)])).upd l0m3 (.map 9 (encM eS (eL eRange) r1.2.names)))) (os := [some (.cells [.val (.int .i64 r1.1.Kind), .val (.int .i64 r1.1.Set), .val (.sl (List.map eNode r1.1.Kids))])]) (os' := []) (A_wf (A_wf hwf hl0) hl0m3) (Nat.le_refl _) (by simp (disch := (apply Apart.mk; decide)) only [go_sem, Nat.reduceAdd, Nat.reduceLT, Nat.reduceMul, Nat.reduceLeDiff, Int.reduceToNat, Int.reduceLT, Int.reduceLE, ha0, on_atB hl0, lt_add hl0, lt_at hl0, ha0m3, on_atB hl0m3, lt_add hl0m3, lt_at hl0m3, ha2c0, on_atB hl2c0, lt_add hl2c0, lt_at hl2c0, ha2c1, on_atB hl2c1, lt_add hl2c1, lt_at hl2c1, on_updB hl0, on_atU hl0, on_updU hl0, upd_same ha0, on_updB hl0m3, on_atU hl0m3, on_updU hl0m3, upd_same ha0m3, on_updB hl2c0, on_atU hl2c0, on_updU hl2c0, upd_same ha2c0, on_updB hl2c1, on_atU hl2c1, on_updU hl2c1, upd_same ha2c1, upd_ne hn0_0m3, upd_ne (Ne.symm hn0_0m3), upd_swap hn0_0m3, on_atUU hl0, on_atUU hl0m3, on_updUU hl0, on_updUU hl0m3, upd_ne hn0_2c0, upd_ne (Ne.symm hn0_2c0), upd_swap hn0_2c0, on_atUU hl2c0, on_updUU hl2c0, upd_ne hn0_2c1, upd_ne (Ne.symm hn0_2c1), upd_swap hn0_2c1, on_atUU hl2c1, on_updUU hl2c1, upd_ne hn0m3_2c0, upd_ne (Ne.symm hn0m3_2c0), upd_swap hn0m3_2c0, upd_ne hn0m3_2c1, upd_ne (Ne.symm hn0m3_2c1), upd_swap hn0m3_2c1, upd_ne hn2c0_2c1, upd_ne (Ne.symm hn2c0_2c1), upd_swap hn2c0_2c1, upd_keep hn0_0m3 ha0m3, cF1])) ⟨rfl, on_nil (h := ((h.upd l0 (.cells [.val (.sl (List.map eToken r1.2.tokens.list)), .val (.int .i64 r1.2.tokens.place), .val (.int .i64 r1.2.tokens.fault), .val (.map (some (l0m3))), .row 35 (List.map (eL eRange) r1.2.program.Sets), .row 40 (List.map eRule r1.2.program.Rules)])).upd l0m3 (.map 9 (encM eS (eL eRange) r1.2.names)))) (A_wf (A_wf hwf hl0) hl0m3)⟩)
end Go.Val

/- part LW103 -/
/- (*scansion/syntax.parser).part runs as it is read off. -/
namespace Go.Val
set_option maxRecDepth 20000
open Go.Proofs
theorem syntax_parser_part_runs (self : Tsyntax_parser → Int → Option ((TNode × Tsyntax_parser))) (p : Tsyntax_parser) (depth : Int) (l0 : Nat) (l0m3 : Nat) {h : Heap} (hself : ∀ (p : Tsyntax_parser) (depth : Int) (l0 : Nat) (l0m3 : Nat) {h : Heap} (ha0 : h.at_ l0 = some (.cells [.val (.sl (List.map eToken p.tokens.list)), .val (.int .i64 p.tokens.place), .val (.int .i64 p.tokens.fault), .val (.map (some (l0m3))), .row 35 (List.map (eL eRange) p.program.Sets), .row 40 (List.map eRule p.program.Rules)])) (ha0m3 : h.at_ l0m3 = some (.map 9 (encM eS (eL eRange) p.names))) (hn0_0m3 : l0 ≠ l0m3) {a : (TNode × Tsyntax_parser)} (e : self p depth = some a),
    Runs CT 50 [.cv (.val (.ptr (some (l0, 0)))), .cv (.val (.int .i64 depth))] h fun o h' => o = [.cv (.val (.agg [.int .i64 a.1.Kind, .int .i64 a.1.Set, .sl (List.map eNode a.1.Kids)]))] ∧ h' = ((h.upd l0 (.cells [.val (.sl (List.map eToken a.2.tokens.list)), .val (.int .i64 a.2.tokens.place), .val (.int .i64 a.2.tokens.fault), .val (.map (some (l0m3))), .row 35 (List.map (eL eRange) a.2.program.Sets), .row 40 (List.map eRule a.2.program.Rules)])).upd l0m3 (.map 9 (encM eS (eL eRange) a.2.names)))) (ha0 : h.at_ l0 = some (.cells [.val (.sl (List.map eToken p.tokens.list)), .val (.int .i64 p.tokens.place), .val (.int .i64 p.tokens.fault), .val (.map (some (l0m3))), .row 35 (List.map (eL eRange) p.program.Sets), .row 40 (List.map eRule p.program.Rules)])) (ha0m3 : h.at_ l0m3 = some (.map 9 (encM eS (eL eRange) p.names))) (hn0_0m3 : l0 ≠ l0m3) {a : (TNode × Tsyntax_parser)} (e : syntax_parser_part self p depth = some a) :
    Runs CT 103 [.cv (.val (.ptr (some (l0, 0)))), .cv (.val (.int .i64 depth))] h fun o h' => o = [.cv (.val (.agg [.int .i64 a.1.Kind, .int .i64 a.1.Set, .sl (List.map eNode a.1.Kids)]))] ∧ h' = ((h.upd l0 (.cells [.val (.sl (List.map eToken a.2.tokens.list)), .val (.int .i64 a.2.tokens.place), .val (.int .i64 a.2.tokens.fault), .val (.map (some (l0m3))), .row 35 (List.map (eL eRange) a.2.program.Sets), .row 40 (List.map eRule a.2.program.Rules)])).upd l0m3 (.map 9 (encM eS (eL eRange) a.2.names))) := by
  refine Runs.start Tryz.f103 _ Tryz.func103 rfl (by rw [Tryz.ntmps103]; simp) (by rfl) (by rfl) (fun hwf hu => ?_)
  have hl0 := (hwf _ _ ha0).1
  have kl0 := locF hl0
  have hl0m3 := (hwf _ _ ha0m3).1
  have kl0m3 := locF hl0m3
  have ku0 := updF hl0 ha0
  have ku0m3 := updF hl0m3 ha0m3
  have kp0_0m3 := updP hn0_0m3
  have kk0_0m3 := keepF hn0_0m3 ha0m3
  obtain ⟨D, hD, hr⟩ : ∃ D : (TNode × Tsyntax_parser) → Prop, (∀ z, D z → z = a) ∧ Holds (syntax_parser_part self p depth) D := ⟨fun z => z = a, fun _ h => h, Holds.intro e rfl⟩
  dsimp only [syntax_parser_part] at hr
  change wpCode _ _ _ _ _ ⟨[(0, .cv (.val (.ptr (some (l0, 0))))), (1, .cv (.val (.int .i64 depth)))], h.on []⟩
  refine w_seq ?_
  refine A_region ?_
  refine w_n ?_
  refine w_seq ?_
  refine A_region ?_
  refine w_n ?_
  refine w_seq ?_
  refine w_seq ?_
  refine A_ops ?_
  refine A_upto 3 ?_
  obtain ⟨r, eF1, hr⟩ := hr.bind
  refine A_call (out := ?o_eF1) (hp := ?p_eF1) ?c_eF1 ?d_eF1 ?_
  case c_eF1 => (refine syntax_tokens_is_runs p ([40] : Str) (l0) (l0m3) ?_ ?_ ?_ eF1; exact A_hat; exact A_hat; exact A_ne)
  case d_eF1 => rfl
  refine w_ops_nil ?_
  refine w_n ?_
  refine w_K (D := D) (fun xX : (Int × Int × List TNode × List TToken × Int × Int × List (List TRange) × List TRule × List (Str × List TRange)) => ⟨[(0, .cv (.val (.ptr (some (l0, 0))))), (4, .cv (.val (.ptr (some (h.n + 0, 0))))), (5, .cv (.val (.ptr (some (h.n + 1, 0)))))], ((h.upd l0 (.cells [.val (.sl (List.map eToken xX.2.2.2.1)), .val (.int .i64 xX.2.2.2.2.1), .val (.int .i64 xX.2.2.2.2.2.1), .val (.map (some (l0m3))), .row 35 (List.map (eL eRange) xX.2.2.2.2.2.2.1), .row 40 (List.map eRule xX.2.2.2.2.2.2.2.1)])).upd l0m3 (.map 9 (encM eS (eL eRange) xX.2.2.2.2.2.2.2.2))).on [some (.cells [.val (.int .i64 (0 : Int)), .val (.int .i64 (0 : Int)), .nil]), some (.cells [.val (.int .i64 xX.1), .val (.int .i64 xX.2.1), .val (.sl (List.map eNode xX.2.2.1))])]⟩) (fun xX : (Int × Int × List TNode × List TToken × Int × Int × List (List TRange) × List TRule × List (Str × List TRange)) => syntax_parser_part.k1 xX.1 xX.2.1 xX.2.2.1 xX.2.2.2.1 xX.2.2.2.2.1 xX.2.2.2.2.2.1 xX.2.2.2.2.2.2.1 xX.2.2.2.2.2.2.2.1 xX.2.2.2.2.2.2.2.2) (fun xX s' hr ht => ?_) ?_
  · obtain ⟨Kind, Set, Kids, list, place, fault, Sets, Rules, m⟩ := xX
    dsimp only [syntax_parser_part.k1] at hr ht
    refine (w_nT ht ?_)
    refine w_seq ?_
    refine w_seq ?_
    refine A_ops ?_
    refine A_upto 1 ?_
    obtain ⟨r1, eF2, hr⟩ := hr.bind
    refine A_call (out := ?o_eF2) (hp := ?p_eF2) ?c_eF2 ?d_eF2 ?_
    case c_eF2 => exact syntax_ends_runs (TNode.mk Kind Set Kids) eF2
    case d_eF2 => rfl
    refine A_ops_end ?_
    refine w_n ?_
    refine w_K (D := D) (fun xX : (Int × Int × List TNode × List TToken × Int × Int × List (List TRange) × List TRule × List (Str × List TRange)) => ⟨[(4, .cv (.val (.ptr (some (h.n + 0, 0))))), (5, .cv (.val (.ptr (some (h.n + 1, 0)))))], ((h.upd l0 (.cells [.val (.sl (List.map eToken xX.2.2.2.1)), .val (.int .i64 xX.2.2.2.2.1), .val (.int .i64 xX.2.2.2.2.2.1), .val (.map (some (l0m3))), .row 35 (List.map (eL eRange) xX.2.2.2.2.2.2.1), .row 40 (List.map eRule xX.2.2.2.2.2.2.2.1)])).upd l0m3 (.map 9 (encM eS (eL eRange) xX.2.2.2.2.2.2.2.2))).on [some (.cells [.val (.int .i64 (0 : Int)), .val (.int .i64 (0 : Int)), .nil]), some (.cells [.val (.int .i64 xX.1), .val (.int .i64 xX.2.1), .val (.sl (List.map eNode xX.2.2.1))])]⟩) (fun xX : (Int × Int × List TNode × List TToken × Int × Int × List (List TRange) × List TRule × List (Str × List TRange)) => syntax_parser_part.k2 xX.1 xX.2.1 xX.2.2.1 xX.2.2.2.1 xX.2.2.2.2.1 xX.2.2.2.2.2.1 xX.2.2.2.2.2.2.1 xX.2.2.2.2.2.2.2.1 xX.2.2.2.2.2.2.2.2) (fun xX s' hr ht => ?_) ?_
    · obtain ⟨Kind1, Set1, Kids1, list1, place1, fault1, Sets1, Rules1, m1⟩ := xX
      dsimp only [syntax_parser_part.k2] at hr ht
      refine (w_nT ht ?_)
      refine w_seq ?_
      refine A_region ?_
      refine w_n ?_
      refine w_ret ?_
      obtain rfl := hD _ hr
      exact (w_endRD (A_cut (os' := [some (.cells [.val (.int .i64 (TNode.mk Kind1 Set1 Kids1).Kind), .val (.int .i64 (TNode.mk Kind1 Set1 Kids1).Set), .val (.sl (List.map eNode (TNode.mk Kind1 Set1 Kids1).Kids))])]) (sl := [(4, .cv (.val (.ptr (some (h.n + 0, 0)))))]) (h := ((h.upd l0 (.cells [.val (.sl (List.map eToken list1)), .val (.int .i64 place1), .val (.int .i64 fault1), .val (.map (some (l0m3))), .row 35 (List.map (eL eRange) Sets1), .row 40 (List.map eRule Rules1)])).upd l0m3 (.map 9 (encM eS (eL eRange) m1)))) (A_wf (A_wf hwf hl0) hl0m3)) (by simp (disch := (apply Apart.mk; decide)) only [go_sem, Nat.reduceAdd, Nat.reduceLT, Nat.reduceMul, Nat.reduceLeDiff, Int.reduceToNat, Int.reduceLT, Int.reduceLE, ha0, on_atB hl0, lt_add hl0, lt_at hl0, ha0m3, on_atB hl0m3, lt_add hl0m3, lt_at hl0m3, on_updB hl0, on_atU hl0, on_updU hl0, upd_same ha0, on_updB hl0m3, on_atU hl0m3, on_updU hl0m3, upd_same ha0m3, upd_ne hn0_0m3, upd_ne (Ne.symm hn0_0m3), upd_swap hn0_0m3, on_atUU hl0, on_atUU hl0m3, on_updUU hl0, on_updUU hl0m3, upd_keep hn0_0m3 ha0m3, Tryz.results103, results_data CT_gives103, resCell, resVal.eq_2, loadOp_sv]) (Drops.on (h := ((h.upd l0 (.cells [.val (.sl (List.map eToken list1)), .val (.int .i64 place1), .val (.int .i64 fault1), .val (.map (some (l0m3))), .row 35 (List.map (eL eRange) Sets1), .row 40 (List.map eRule Rules1)])).upd l0m3 (.map 9 (encM eS (eL eRange) m1)))) (os := [some (.cells [.val (.int .i64 (TNode.mk Kind1 Set1 Kids1).Kind), .val (.int .i64 (TNode.mk Kind1 Set1 Kids1).Set), .val (.sl (List.map eNode (TNode.mk Kind1 Set1 Kids1).Kids))])]) (os' := []) (A_wf (A_wf hwf hl0) hl0m3) (Nat.le_refl _) (by simp (disch := (apply Apart.mk; decide)) only [go_sem, Nat.reduceAdd, Nat.reduceLT, Nat.reduceMul, Nat.reduceLeDiff, Int.reduceToNat, Int.reduceLT, Int.reduceLE, ha0, on_atB hl0, lt_add hl0, lt_at hl0, ha0m3, on_atB hl0m3, lt_add hl0m3, lt_at hl0m3, on_updB hl0, on_atU hl0, on_updU hl0, upd_same ha0, on_updB hl0m3, on_atU hl0m3, on_updU hl0m3, upd_same ha0m3, upd_ne hn0_0m3, upd_ne (Ne.symm hn0_0m3), upd_swap hn0_0m3, on_atUU hl0, on_atUU hl0m3, on_updUU hl0, on_updUU hl0m3, upd_keep hn0_0m3 ha0m3])) ⟨rfl, on_nil (h := ((h.upd l0 (.cells [.val (.sl (List.map eToken list1)), .val (.int .i64 place1), .val (.int .i64 fault1), .val (.map (some (l0m3))), .row 35 (List.map (eL eRange) Sets1), .row 40 (List.map eRule Rules1)])).upd l0m3 (.map 9 (encM eS (eL eRange) m1)))) (A_wf (A_wf hwf hl0) hl0m3)⟩)
    · refine w_block ?_
      refine w_Loop (fun xX : (Int × Int × Int × List TNode × Int) => ⟨[(0, .cv (.val (.ptr (some (l0, 0))))), (4, .cv (.val (.ptr (some (h.n + 0, 0))))), (5, .cv (.val (.ptr (some (h.n + 1, 0))))), (8, .cv (.val (.int .i64 xX.1)))], ((h.upd l0 (.cells [.val (.sl (List.map eToken list)), .val (.int .i64 xX.2.2.2.2), .val (.int .i64 fault), .val (.map (some (l0m3))), .row 35 (List.map (eL eRange) Sets), .row 40 (List.map eRule Rules)])).upd l0m3 (.map 9 (encM eS (eL eRange) m))).on [some (.cells [.val (.int .i64 (0 : Int)), .val (.int .i64 (0 : Int)), .nil]), some (.cells [.val (.int .i64 xX.2.1), .val (.int .i64 xX.2.2.1), .val (.sl (List.map eNode xX.2.2.2.1))])]⟩) hr (A_cut (A_wf (A_wf hwf hl0) hl0m3)) (fun W1 xX hr => ?_)
      obtain ⟨k, Kind2, Set2, Kids2, place2⟩ := xX
      dsimp only [syntax_parser_part.b1] at hr
      refine w_seq ?_
      refine w_seq ?_
      refine A_region ?_
      refine w_n ?_
      refine A_condH hr (fun cF3 hr => ?_) (fun cF3 hr => ?_)
      · refine w_skip ?_
        refine w_n ?_
        refine w_seq ?_
        refine w_block ?_
        refine w_seq ?_
        refine A_ops ?_
        refine A_upto 3 ?_
        obtain ⟨r2, eF4, hr⟩ := hr.bind
        refine A_call (out := ?o_eF4) (hp := ?p_eF4) ?c_eF4 ?d_eF4 ?_
        case c_eF4 => (refine syntax_tokens_now_runs (Tsyntax_parser.mk (Tsyntax_tokens.mk list place2 fault) m (TProgram.mk Sets Rules)) (l0) (l0m3) ?_ ?_ ?_ eF4; exact A_hat; exact A_hat; exact A_ne)
        case d_eF4 => rfl
        refine A_ops_end ?_
        refine w_n ?_
        refine w_seq ?_
        refine A_ops ?_
        refine A_upto 2 ?_
        obtain ⟨r3, eF5, hr⟩ := hr.bind
        refine A_call (out := ?o_eF5) (hp := ?p_eF5) ?c_eF5 ?d_eF5 ?_
        case c_eF5 => exact syntax_sign_runs r2.Text eF5
        case d_eF5 => rfl
        refine A_ops_end ?_
        refine w_n ?_
        refine w_seq ?_
        refine w_joinR (sj := ⟨[(0, .cv (.val (.ptr (some (l0, 0))))), (4, .cv (.val (.ptr (some (h.n + 0, 0))))), (5, .cv (.val (.ptr (some (h.n + 1, 0))))), (8, .cv (.val (.int .i64 k))), (10, .cv (.val (.int .i64 r3))), (76, .cv (.val (.bool ((r2.Kind != (2 : Int)) || (r3 == (0 : Int))))))], ((h.upd l0 (.cells [.val (.sl (List.map eToken list)), .val (.int .i64 place2), .val (.int .i64 fault), .val (.map (some (l0m3))), .row 35 (List.map (eL eRange) Sets), .row 40 (List.map eRule Rules)])).upd l0m3 (.map 9 (encM eS (eL eRange) m))).on [some (.cells [.val (.int .i64 (0 : Int)), .val (.int .i64 (0 : Int)), .nil]), some (.cells [.val (.int .i64 Kind2), .val (.int .i64 Set2), .val (.sl (List.map eNode Kids2))])]⟩) (A_ops ?_) ?_
        · refine A_upto 4 ?_
          rcases Bool.eq_false_or_eq_true (r2.Kind != (2 : Int)) with cF6 | cF6
          · refine A_ops_end ?_
            exact w_k (A_cut (A_wf (A_wf hwf hl0) hl0m3))
          · refine A_ops_end ?_
            exact w_k (A_cut (A_wf (A_wf hwf hl0) hl0m3))
        refine A_condH hr (fun cF7 hr => ?_) (fun cF7 hr => ?_)
        · refine w_exit ?_
          exact (w_te (w_bo (w_te (w_te (w_bx (w_k ⟨(Kind2, Set2, Kids2, list, place2, fault, Sets, Rules, m), (hr).map, (A_cut (A_wf (A_wf hwf hl0) hl0m3))⟩)))) rfl))
        · refine w_skip ?_
          refine w_n ?_
          refine w_seq ?_
          refine w_seq ?_
          refine A_region ?_
          refine w_n ?_
          refine A_condH hr (fun cF8 hr => ?_) (fun cF8 hr => ?_)
          · refine w_seq ?_
            refine A_ops ?_
            refine A_upto 3 ?_
            obtain ⟨r4, eF9, hr⟩ := hr.bind
            refine A_call (out := ?o_eF9) (hp := ?p_eF9) ?c_eF9 ?d_eF9 ?_
            case c_eF9 => (refine syntax_tokens_fail_runs (Tsyntax_parser.mk (Tsyntax_tokens.mk list place2 fault) m (TProgram.mk Sets Rules)) (3 : Int) (l0) (l0m3) ?_ ?_ ?_ eF9; exact A_hat; exact A_hat; exact A_ne)
            case d_eF9 => rfl
            refine w_ops_nil ?_
            refine w_n ?_
            refine w_exit ?_
            exact (w_te (w_bo (w_te (w_te (w_bx (w_k ⟨(Kind2, Set2, Kids2, r4.tokens.list, r4.tokens.place, r4.tokens.fault, r4.program.Sets, r4.program.Rules, r4.names), (hr).map, (A_cut (A_wf (A_wf hwf hl0) hl0m3))⟩)))) rfl))
          · refine w_skip ?_
            refine w_n ?_
            refine w_seq ?_
            refine A_region ?_
            refine w_n ?_
            refine A_region ?_
            refine (w_bn (w_n ?_))
            refine A_region ?_
            exact (w_k ⟨((IntKind.i64.wrap (k + (1 : Int))), r3, (0 : Int), [(TNode.mk Kind2 Set2 Kids2)], (IntKind.i64.wrap (place2 + (1 : Int)))), hr, (A_cut (A_wf (A_wf hwf hl0) hl0m3))⟩)
      · refine w_exit ?_
        exact (w_te (w_te (w_bx (w_k ⟨(Kind2, Set2, Kids2, list, place2, fault, Sets, Rules, m), (hr).map, (A_cut (A_wf (A_wf hwf hl0) hl0m3))⟩))))
  · refine A_condH hr (fun cF10 hr => ?_) (fun cF10 hr => ?_)
    · refine A_ops ?_
      refine A_upto 5 ?_
      refine A_call (out := ?o_eF11) (hp := ?p_eF11) ?c_eF11 ?d_eF11 ?_
      case c_eF11 => exact syntax_closed_api_Node_runs _ _
      case d_eF11 => rfl
      obtain ⟨r5, eF12, hr⟩ := hr.bind
      refine A_call (out := ?o_eF12) (hp := ?p_eF12) ?c_eF12 ?d_eF12 ?_
      case c_eF12 => (refine syntax_deeper_api_Node_runs self p depth (l0) (l0m3) (h.n + 3) (h.n + 2) hself ?_ ?_ ?_ ?_ ?_ ?_ ?_ ?_ ?_ ?_ eF12; exact A_hat; exact A_hat; exact A_hat; exact A_hat; exact A_ne; exact A_ne; exact A_ne; exact A_ne; exact A_ne; exact A_ne)
      case d_eF12 => rfl
      refine A_ops_end ?_
      exact (w_k ⟨(r5.1.Kind, r5.1.Set, r5.1.Kids, r5.2.tokens.list, r5.2.tokens.place, r5.2.tokens.fault, r5.2.program.Sets, r5.2.program.Rules, r5.2.names), hr, (A_cut (A_wf (A_wf hwf hl0) hl0m3))⟩)
    · refine w_seq ?_
      refine A_ops ?_
      refine A_upto 1 ?_
      obtain ⟨r6, eF13, hr⟩ := hr.bind
      refine A_call (out := ?o_eF13) (hp := ?p_eF13) ?c_eF13 ?d_eF13 ?_
      case c_eF13 => (refine syntax_parser_set_runs p (l0) (l0m3) ?_ ?_ ?_ eF13; exact A_hat; exact A_hat; exact A_ne)
      case d_eF13 => rfl
      refine A_ops_end ?_
      refine w_n ?_
      refine w_seq ?_
      refine w_seq ?_
      refine A_region ?_
      refine w_n ?_
      refine A_condH hr (fun cF14 hr => ?_) (fun cF14 hr => ?_)
      · refine w_seq ?_
        refine A_ops ?_
        refine A_upto 3 ?_
        obtain ⟨r7, eF15, hr⟩ := hr.bind
        refine A_call (out := ?o_eF15) (hp := ?p_eF15) ?c_eF15 ?d_eF15 ?_
        case c_eF15 => (refine syntax_tokens_fail_runs r6.2.2 (6 : Int) (l0) (l0m3) ?_ ?_ ?_ eF15; exact A_hat; exact A_hat; exact A_ne)
        case d_eF15 => rfl
        refine w_ops_nil ?_
        refine w_n ?_
        refine w_seq ?_
        refine A_region ?_
        refine w_n ?_
        refine w_ret ?_
        obtain rfl := hD _ hr
        exact (w_tr (w_tr (w_tr (w_endRD (A_cut (os' := [some (.cells [.val (.int .i64 (TNode.mk (0 : Int) (0 : Int) []).Kind), .val (.int .i64 (TNode.mk (0 : Int) (0 : Int) []).Set), .val (.sl (List.map eNode (TNode.mk (0 : Int) (0 : Int) []).Kids))])]) (sl := [(4, .cv (.val (.ptr (some (h.n + 0, 0)))))]) (h := ((h.upd l0 (.cells [.val (.sl (List.map eToken r7.tokens.list)), .val (.int .i64 r7.tokens.place), .val (.int .i64 r7.tokens.fault), .val (.map (some (l0m3))), .row 35 (List.map (eL eRange) r7.program.Sets), .row 40 (List.map eRule r7.program.Rules)])).upd l0m3 (.map 9 (encM eS (eL eRange) r7.names)))) (A_wf (A_wf hwf hl0) hl0m3)) (by simp (disch := (apply Apart.mk; decide)) only [go_sem, Nat.reduceAdd, Nat.reduceLT, Nat.reduceMul, Nat.reduceLeDiff, Int.reduceToNat, Int.reduceLT, Int.reduceLE, ha0, on_atB hl0, lt_add hl0, lt_at hl0, ha0m3, on_atB hl0m3, lt_add hl0m3, lt_at hl0m3, on_updB hl0, on_atU hl0, on_updU hl0, upd_same ha0, on_updB hl0m3, on_atU hl0m3, on_updU hl0m3, upd_same ha0m3, upd_ne hn0_0m3, upd_ne (Ne.symm hn0_0m3), upd_swap hn0_0m3, on_atUU hl0, on_atUU hl0m3, on_updUU hl0, on_updUU hl0m3, upd_keep hn0_0m3 ha0m3, Tryz.results103, results_data CT_gives103, resCell, resVal.eq_2, loadOp_sv, cF10, cF14]) (Drops.on (h := ((h.upd l0 (.cells [.val (.sl (List.map eToken r7.tokens.list)), .val (.int .i64 r7.tokens.place), .val (.int .i64 r7.tokens.fault), .val (.map (some (l0m3))), .row 35 (List.map (eL eRange) r7.program.Sets), .row 40 (List.map eRule r7.program.Rules)])).upd l0m3 (.map 9 (encM eS (eL eRange) r7.names)))) (os := [some (.cells [.val (.int .i64 (TNode.mk (0 : Int) (0 : Int) []).Kind), .val (.int .i64 (TNode.mk (0 : Int) (0 : Int) []).Set), .val (.sl (List.map eNode (TNode.mk (0 : Int) (0 : Int) []).Kids))])]) (os' := []) (A_wf (A_wf hwf hl0) hl0m3) (Nat.le_refl _) (by simp (disch := (apply Apart.mk; decide)) only [go_sem, Nat.reduceAdd, Nat.reduceLT, Nat.reduceMul, Nat.reduceLeDiff, Int.reduceToNat, Int.reduceLT, Int.reduceLE, ha0, on_atB hl0, lt_add hl0, lt_at hl0, ha0m3, on_atB hl0m3, lt_add hl0m3, lt_at hl0m3, on_updB hl0, on_atU hl0, on_updU hl0, upd_same ha0, on_updB hl0m3, on_atU hl0m3, on_updU hl0m3, upd_same ha0m3, upd_ne hn0_0m3, upd_ne (Ne.symm hn0_0m3), upd_swap hn0_0m3, on_atUU hl0, on_atUU hl0m3, on_updUU hl0, on_updUU hl0m3, upd_keep hn0_0m3 ha0m3, cF10, cF14])) ⟨rfl, on_nil (h := ((h.upd l0 (.cells [.val (.sl (List.map eToken r7.tokens.list)), .val (.int .i64 r7.tokens.place), .val (.int .i64 r7.tokens.fault), .val (.map (some (l0m3))), .row 35 (List.map (eL eRange) r7.program.Sets), .row 40 (List.map eRule r7.program.Rules)])).upd l0m3 (.map 9 (encM eS (eL eRange) r7.names)))) (A_wf (A_wf hwf hl0) hl0m3)⟩))))
      · refine w_skip ?_
        refine w_n ?_
        refine w_seq ?_
        refine A_ops ?_
        refine A_upto 2 ?_
        obtain ⟨r8, eF16, hr⟩ := hr.bind
        refine A_call (out := ?o_eF16) (hp := ?p_eF16) ?c_eF16 ?d_eF16 ?_
        case c_eF16 => (refine syntax_parser_number_runs r6.2.2 r6.1 (l0) (l0m3) ?_ ?_ ?_ eF16; exact A_hat; exact A_hat; exact A_ne)
        case d_eF16 => rfl
        refine A_ops_end ?_
        refine w_n ?_
        refine w_seq ?_
        refine A_region ?_
        refine w_n ?_
        refine A_condH hr (fun cF17 hr => ?_) (fun cF17 hr => ?_)
        · refine A_region ?_
          exact (w_k ⟨((1 : Int), r8.1, [], r8.2.tokens.list, (IntKind.i64.wrap (r8.2.tokens.place + (1 : Int))), r8.2.tokens.fault, r8.2.program.Sets, r8.2.program.Rules, r8.2.names), hr, (A_cut (A_wf (A_wf hwf hl0) hl0m3))⟩)
        · refine w_skip ?_
          exact (w_k ⟨((1 : Int), r8.1, [], r8.2.tokens.list, r8.2.tokens.place, r8.2.tokens.fault, r8.2.program.Sets, r8.2.program.Rules, r8.2.names), hr, (A_cut (A_wf (A_wf hwf hl0) hl0m3))⟩)
end Go.Val

/- part LW78 -/
/- (*scansion/syntax.parser).cat runs as it is read off. -/
namespace Go.Val
set_option maxRecDepth 20000
open Go.Proofs
theorem syntax_parser_cat_runs (self : Tsyntax_parser → Int → Option ((TNode × Tsyntax_parser))) (p : Tsyntax_parser) (depth : Int) (l0 : Nat) (l0m3 : Nat) {h : Heap} (hself : ∀ (p : Tsyntax_parser) (depth : Int) (l0 : Nat) (l0m3 : Nat) {h : Heap} (ha0 : h.at_ l0 = some (.cells [.val (.sl (List.map eToken p.tokens.list)), .val (.int .i64 p.tokens.place), .val (.int .i64 p.tokens.fault), .val (.map (some (l0m3))), .row 35 (List.map (eL eRange) p.program.Sets), .row 40 (List.map eRule p.program.Rules)])) (ha0m3 : h.at_ l0m3 = some (.map 9 (encM eS (eL eRange) p.names))) (hn0_0m3 : l0 ≠ l0m3) {a : (TNode × Tsyntax_parser)} (e : self p depth = some a),
    Runs CT 50 [.cv (.val (.ptr (some (l0, 0)))), .cv (.val (.int .i64 depth))] h fun o h' => o = [.cv (.val (.agg [.int .i64 a.1.Kind, .int .i64 a.1.Set, .sl (List.map eNode a.1.Kids)]))] ∧ h' = ((h.upd l0 (.cells [.val (.sl (List.map eToken a.2.tokens.list)), .val (.int .i64 a.2.tokens.place), .val (.int .i64 a.2.tokens.fault), .val (.map (some (l0m3))), .row 35 (List.map (eL eRange) a.2.program.Sets), .row 40 (List.map eRule a.2.program.Rules)])).upd l0m3 (.map 9 (encM eS (eL eRange) a.2.names)))) (ha0 : h.at_ l0 = some (.cells [.val (.sl (List.map eToken p.tokens.list)), .val (.int .i64 p.tokens.place), .val (.int .i64 p.tokens.fault), .val (.map (some (l0m3))), .row 35 (List.map (eL eRange) p.program.Sets), .row 40 (List.map eRule p.program.Rules)])) (ha0m3 : h.at_ l0m3 = some (.map 9 (encM eS (eL eRange) p.names))) (hn0_0m3 : l0 ≠ l0m3) {a : (TNode × Tsyntax_parser)} (e : syntax_parser_cat self p depth = some a) :
    Runs CT 78 [.cv (.val (.ptr (some (l0, 0)))), .cv (.val (.int .i64 depth))] h fun o h' => o = [.cv (.val (.agg [.int .i64 a.1.Kind, .int .i64 a.1.Set, .sl (List.map eNode a.1.Kids)]))] ∧ h' = ((h.upd l0 (.cells [.val (.sl (List.map eToken a.2.tokens.list)), .val (.int .i64 a.2.tokens.place), .val (.int .i64 a.2.tokens.fault), .val (.map (some (l0m3))), .row 35 (List.map (eL eRange) a.2.program.Sets), .row 40 (List.map eRule a.2.program.Rules)])).upd l0m3 (.map 9 (encM eS (eL eRange) a.2.names))) := by
  refine Runs.start Tryz.f78 _ Tryz.func78 rfl (by rw [Tryz.ntmps78]; simp) (by rfl) (by rfl) (fun hwf hu => ?_)
  have hl0 := (hwf _ _ ha0).1
  have kl0 := locF hl0
  have hl0m3 := (hwf _ _ ha0m3).1
  have kl0m3 := locF hl0m3
  have ku0 := updF hl0 ha0
  have ku0m3 := updF hl0m3 ha0m3
  have kp0_0m3 := updP hn0_0m3
  have kk0_0m3 := keepF hn0_0m3 ha0m3
  obtain ⟨D, hD, hr⟩ : ∃ D : (TNode × Tsyntax_parser) → Prop, (∀ z, D z → z = a) ∧ Holds (syntax_parser_cat self p depth) D := ⟨fun z => z = a, fun _ h => h, Holds.intro e rfl⟩
  dsimp only [syntax_parser_cat] at hr
  change wpCode _ _ _ _ _ ⟨[(0, .cv (.val (.ptr (some (l0, 0))))), (1, .cv (.val (.int .i64 depth)))], h.on []⟩
  refine w_seq ?_
  refine A_region ?_
  refine w_n ?_
  refine w_seq ?_
  refine A_region ?_
  refine w_n ?_
  refine w_seq ?_
  refine w_K (D := D) (fun xX : (List TNode × List TToken × Int × Int × List (List TRange) × List TRule × List (Str × List TRange)) => ⟨[(4, .cv (.val (.ptr (some (h.n + 0, 0))))), (5, .cv (.row 38 (List.map eNode xX.1)))], ((h.upd l0 (.cells [.val (.sl (List.map eToken xX.2.1)), .val (.int .i64 xX.2.2.1), .val (.int .i64 xX.2.2.2.1), .val (.map (some (l0m3))), .row 35 (List.map (eL eRange) xX.2.2.2.2.1), .row 40 (List.map eRule xX.2.2.2.2.2.1)])).upd l0m3 (.map 9 (encM eS (eL eRange) xX.2.2.2.2.2.2))).on [some (.cells [.val (.int .i64 (0 : Int)), .val (.int .i64 (0 : Int)), .nil])]⟩) (fun xX : (List TNode × List TToken × Int × Int × List (List TRange) × List TRule × List (Str × List TRange)) => syntax_parser_cat.k1 xX.1 xX.2.1 xX.2.2.1 xX.2.2.2.1 xX.2.2.2.2.1 xX.2.2.2.2.2.1 xX.2.2.2.2.2.2) (fun xX s' hr ht => ?_) ?_
  · obtain ⟨l, list, place, fault, Sets, Rules, m⟩ := xX
    dsimp only [syntax_parser_cat.k1] at hr ht
    refine (w_nT ht ?_)
    refine w_seq ?_
    refine A_ops ?_
    refine A_upto 1 ?_
    obtain ⟨r, eF1, hr⟩ := hr.bind
    refine A_call (out := ?o_eF1) (hp := ?p_eF1) ?c_eF1 ?d_eF1 ?_
    case c_eF1 => exact syntax_some_runs (0 : Int) l eF1
    case d_eF1 => rfl
    refine A_ops_end ?_
    refine w_n ?_
    refine w_ret ?_
    obtain rfl := hD _ hr
    exact (w_endRD (A_cut (os' := [some (.cells [.val (.int .i64 r.Kind), .val (.int .i64 r.Set), .val (.sl (List.map eNode r.Kids))])]) (sl := [(4, .cv (.val (.ptr (some (h.n + 0, 0)))))]) (h := ((h.upd l0 (.cells [.val (.sl (List.map eToken list)), .val (.int .i64 place), .val (.int .i64 fault), .val (.map (some (l0m3))), .row 35 (List.map (eL eRange) Sets), .row 40 (List.map eRule Rules)])).upd l0m3 (.map 9 (encM eS (eL eRange) m)))) (A_wf (A_wf hwf hl0) hl0m3)) (by simp (disch := (apply Apart.mk; decide)) only [go_sem, Nat.reduceAdd, Nat.reduceLT, Nat.reduceMul, Nat.reduceLeDiff, Int.reduceToNat, Int.reduceLT, Int.reduceLE, ha0, on_atB hl0, lt_add hl0, lt_at hl0, ha0m3, on_atB hl0m3, lt_add hl0m3, lt_at hl0m3, on_updB hl0, on_atU hl0, on_updU hl0, upd_same ha0, on_updB hl0m3, on_atU hl0m3, on_updU hl0m3, upd_same ha0m3, upd_ne hn0_0m3, upd_ne (Ne.symm hn0_0m3), upd_swap hn0_0m3, on_atUU hl0, on_atUU hl0m3, on_updUU hl0, on_updUU hl0m3, upd_keep hn0_0m3 ha0m3, Tryz.results78, results_data CT_gives78, resCell, resVal.eq_2, loadOp_sv]) (Drops.on (h := ((h.upd l0 (.cells [.val (.sl (List.map eToken list)), .val (.int .i64 place), .val (.int .i64 fault), .val (.map (some (l0m3))), .row 35 (List.map (eL eRange) Sets), .row 40 (List.map eRule Rules)])).upd l0m3 (.map 9 (encM eS (eL eRange) m)))) (os := [some (.cells [.val (.int .i64 r.Kind), .val (.int .i64 r.Set), .val (.sl (List.map eNode r.Kids))])]) (os' := []) (A_wf (A_wf hwf hl0) hl0m3) (Nat.le_refl _) (by simp (disch := (apply Apart.mk; decide)) only [go_sem, Nat.reduceAdd, Nat.reduceLT, Nat.reduceMul, Nat.reduceLeDiff, Int.reduceToNat, Int.reduceLT, Int.reduceLE, ha0, on_atB hl0, lt_add hl0, lt_at hl0, ha0m3, on_atB hl0m3, lt_add hl0m3, lt_at hl0m3, on_updB hl0, on_atU hl0, on_updU hl0, upd_same ha0, on_updB hl0m3, on_atU hl0m3, on_updU hl0m3, upd_same ha0m3, upd_ne hn0_0m3, upd_ne (Ne.symm hn0_0m3), upd_swap hn0_0m3, on_atUU hl0, on_atUU hl0m3, on_updUU hl0, on_updUU hl0m3, upd_keep hn0_0m3 ha0m3])) ⟨rfl, on_nil (h := ((h.upd l0 (.cells [.val (.sl (List.map eToken list)), .val (.int .i64 place), .val (.int .i64 fault), .val (.map (some (l0m3))), .row 35 (List.map (eL eRange) Sets), .row 40 (List.map eRule Rules)])).upd l0m3 (.map 9 (encM eS (eL eRange) m)))) (A_wf (A_wf hwf hl0) hl0m3)⟩)
  · refine w_block ?_
    refine w_Loop (fun xX : (List TNode × List TToken × Int × Int × List (List TRange) × List TRule × List (Str × List TRange)) => ⟨[(0, .cv (.val (.ptr (some (l0, 0))))), (1, .cv (.val (.int .i64 depth))), (4, .cv (.val (.ptr (some (h.n + 0, 0))))), (5, .cv (.row 38 (List.map eNode xX.1)))], ((h.upd l0 (.cells [.val (.sl (List.map eToken xX.2.1)), .val (.int .i64 xX.2.2.1), .val (.int .i64 xX.2.2.2.1), .val (.map (some (l0m3))), .row 35 (List.map (eL eRange) xX.2.2.2.2.1), .row 40 (List.map eRule xX.2.2.2.2.2.1)])).upd l0m3 (.map 9 (encM eS (eL eRange) xX.2.2.2.2.2.2))).on [some (.cells [.val (.int .i64 (0 : Int)), .val (.int .i64 (0 : Int)), .nil])]⟩) hr (A_cut (A_wf (A_wf hwf hl0) hl0m3)) (fun W1 xX hr => ?_)
    obtain ⟨l1, list1, place1, fault1, Sets1, Rules1, m1⟩ := xX
    dsimp only [syntax_parser_cat.b1] at hr
    refine w_seq ?_
    obtain ⟨v, vF10, hr⟩ := hr.bind
    refine w_joinR (sj := ⟨[(0, .cv (.val (.ptr (some (l0, 0))))), (1, .cv (.val (.int .i64 depth))), (4, .cv (.val (.ptr (some (h.n + 0, 0))))), (5, .cv (.row 38 (List.map eNode l1))), (39, .cv (.val (.bool v)))], ((h.upd l0 (.cells [.val (.sl (List.map eToken list1)), .val (.int .i64 place1), .val (.int .i64 fault1), .val (.map (some (l0m3))), .row 35 (List.map (eL eRange) Sets1), .row 40 (List.map eRule Rules1)])).upd l0m3 (.map 9 (encM eS (eL eRange) m1))).on [some (.cells [.val (.int .i64 (0 : Int)), .val (.int .i64 (0 : Int)), .nil])]⟩) (A_ops ?_) ?_
    · have hr := Holds.intro (D := fun z => z = v) vF10 rfl
      refine A_upto 7 ?_
      rcases hr.ite with ⟨cF2, hr⟩ | ⟨cF2, hr⟩
      · refine A_upto 3 ?_
        obtain ⟨r1, eF3, hr⟩ := hr.bind
        refine A_call (out := ?o_eF3) (hp := ?p_eF3) ?c_eF3 ?d_eF3 ?_
        case c_eF3 => (refine syntax_tokens_now_runs (Tsyntax_parser.mk (Tsyntax_tokens.mk list1 place1 fault1) m1 (TProgram.mk Sets1 Rules1)) (l0) (l0m3) ?_ ?_ ?_ eF3; exact A_hat; exact A_hat; exact A_ne)
        case d_eF3 => rfl
        refine A_upto 3 ?_
        rcases hr.ite with ⟨cF4, hr⟩ | ⟨cF4, hr⟩
        · refine A_upto 3 ?_
          refine A_off ?_
          refine A_upto 7 ?_
          refine A_off ?_
          refine A_upto 5 ?_
          refine A_off ?_
          refine A_ops_end ?_
          obtain rfl : _ = v := hr
          exact w_k (A_cut (A_wf (A_wf hwf hl0) hl0m3))
        · refine A_upto 3 ?_
          obtain ⟨r2, eF5, hr⟩ := hr.bind
          refine A_call (out := ?o_eF5) (hp := ?p_eF5) ?c_eF5 ?d_eF5 ?_
          case c_eF5 => (refine syntax_tokens_now_runs (Tsyntax_parser.mk (Tsyntax_tokens.mk list1 place1 fault1) m1 (TProgram.mk Sets1 Rules1)) (l0) (l0m3) ?_ ?_ ?_ eF5; exact A_hat; exact A_hat; exact A_ne)
          case d_eF5 => rfl
          refine A_upto 4 ?_
          rcases hr.ite with ⟨cF6, hr⟩ | ⟨cF6, hr⟩
          · refine A_upto 3 ?_
            refine A_off ?_
            refine A_upto 5 ?_
            refine A_off ?_
            refine A_ops_end ?_
            obtain rfl : _ = v := hr
            exact w_k (A_cut (A_wf (A_wf hwf hl0) hl0m3))
          · refine A_upto 3 ?_
            obtain ⟨r3, eF7, hr⟩ := hr.bind
            refine A_call (out := ?o_eF7) (hp := ?p_eF7) ?c_eF7 ?d_eF7 ?_
            case c_eF7 => (refine syntax_tokens_is_runs (Tsyntax_parser.mk (Tsyntax_tokens.mk list1 place1 fault1) m1 (TProgram.mk Sets1 Rules1)) ([46] : Str) (l0) (l0m3) ?_ ?_ ?_ eF7; exact A_hat; exact A_hat; exact A_ne)
            case d_eF7 => rfl
            refine A_upto 2 ?_
            rcases hr.ite with ⟨cF8, hr⟩ | ⟨cF8, hr⟩
            · refine A_upto 3 ?_
              refine A_off ?_
              refine A_ops_end ?_
              obtain rfl : _ = v := hr
              exact w_k (A_cut (A_wf (A_wf hwf hl0) hl0m3))
            · refine A_upto 3 ?_
              obtain ⟨r4, eF9, hr⟩ := hr.bind
              refine A_call (out := ?o_eF9) (hp := ?p_eF9) ?c_eF9 ?d_eF9 ?_
              case c_eF9 => (refine syntax_tokens_is_runs (Tsyntax_parser.mk (Tsyntax_tokens.mk list1 place1 fault1) m1 (TProgram.mk Sets1 Rules1)) ([40] : Str) (l0) (l0m3) ?_ ?_ ?_ eF9; exact A_hat; exact A_hat; exact A_ne)
              case d_eF9 => rfl
              refine A_ops_end ?_
              obtain rfl : _ = v := hr
              exact w_k (A_cut (A_wf (A_wf hwf hl0) hl0m3))
      · refine A_upto 3 ?_
        refine A_off ?_
        refine A_upto 6 ?_
        refine A_off ?_
        refine A_upto 7 ?_
        refine A_off ?_
        refine A_upto 5 ?_
        refine A_off ?_
        refine A_ops_end ?_
        obtain rfl : _ = v := hr
        exact w_k (A_cut (A_wf (A_wf hwf hl0) hl0m3))
    refine A_condH hr (fun cF11 hr => ?_) (fun cF11 hr => ?_)
    · refine w_skip ?_
      refine w_n ?_
      refine w_block ?_
      refine A_ops ?_
      refine A_upto 3 ?_
      obtain ⟨r5, eF12, hr⟩ := hr.bind
      refine A_call (out := ?o_eF12) (hp := ?p_eF12) ?c_eF12 ?d_eF12 ?_
      case c_eF12 => (refine syntax_parser_part_runs self (Tsyntax_parser.mk (Tsyntax_tokens.mk list1 place1 fault1) m1 (TProgram.mk Sets1 Rules1)) depth (l0) (l0m3) hself ?_ ?_ ?_ eF12; exact A_hat; exact A_hat; exact A_ne)
      case d_eF12 => rfl
      obtain ⟨nF13, hr⟩ := hr.room
      refine A_ops_end ?_
      exact (w_bn (w_k ⟨((l1 ++ ([r5.1])), r5.2.tokens.list, r5.2.tokens.place, r5.2.tokens.fault, r5.2.program.Sets, r5.2.program.Rules, r5.2.names), hr, (A_cut (A_wf (A_wf hwf hl0) hl0m3))⟩))
    · refine w_exit ?_
      exact (w_te (w_te (w_bx (w_k ⟨(l1, list1, place1, fault1, Sets1, Rules1, m1), (hr).map, (A_cut (A_wf (A_wf hwf hl0) hl0m3))⟩))))
end Go.Val

/- part LW50 -/
/- (*scansion/syntax.parser).regex runs as it is read off. -/
namespace Go.Val
set_option maxRecDepth 20000
open Go.Proofs
theorem syntax_parser_regex_runs_r : ∀ (fu : Nat) (p : Tsyntax_parser) (depth : Int) (l0 : Nat) (l0m3 : Nat) {h : Heap} (ha0 : h.at_ l0 = some (.cells [.val (.sl (List.map eToken p.tokens.list)), .val (.int .i64 p.tokens.place), .val (.int .i64 p.tokens.fault), .val (.map (some (l0m3))), .row 35 (List.map (eL eRange) p.program.Sets), .row 40 (List.map eRule p.program.Rules)])) (ha0m3 : h.at_ l0m3 = some (.map 9 (encM eS (eL eRange) p.names))) (hn0_0m3 : l0 ≠ l0m3) {a : (TNode × Tsyntax_parser)} (e : syntax_parser_regex.r fu p depth = some a),
    Runs CT 50 [.cv (.val (.ptr (some (l0, 0)))), .cv (.val (.int .i64 depth))] h fun o h' => o = [.cv (.val (.agg [.int .i64 a.1.Kind, .int .i64 a.1.Set, .sl (List.map eNode a.1.Kids)]))] ∧ h' = ((h.upd l0 (.cells [.val (.sl (List.map eToken a.2.tokens.list)), .val (.int .i64 a.2.tokens.place), .val (.int .i64 a.2.tokens.fault), .val (.map (some (l0m3))), .row 35 (List.map (eL eRange) a.2.program.Sets), .row 40 (List.map eRule a.2.program.Rules)])).upd l0m3 (.map 9 (encM eS (eL eRange) a.2.names))) := by
  intro fu
  induction fu with
  | zero => intros; rename_i e; simp [syntax_parser_regex.r] at e
  | succ fu ih =>
    intro p depth l0 l0m3 h ha0 ha0m3 hn0_0m3 a e
    refine Runs.start Tryz.f50 _ Tryz.func50 rfl (by rw [Tryz.ntmps50]; simp) (by rfl) (by rfl) (fun hwf hu => ?_)
    have hl0 := (hwf _ _ ha0).1
    have kl0 := locF hl0
    have hl0m3 := (hwf _ _ ha0m3).1
    have kl0m3 := locF hl0m3
    have ku0 := updF hl0 ha0
    have ku0m3 := updF hl0m3 ha0m3
    have kp0_0m3 := updP hn0_0m3
    have kk0_0m3 := keepF hn0_0m3 ha0m3
    obtain ⟨D, hD, hr⟩ : ∃ D : (TNode × Tsyntax_parser) → Prop, (∀ z, D z → z = a) ∧ Holds (syntax_parser_regex.r (fu + 1) p depth) D := ⟨fun z => z = a, fun _ h => h, Holds.intro e rfl⟩
    dsimp only [syntax_parser_regex.r] at hr
    change wpCode _ _ _ _ _ ⟨[(0, .cv (.val (.ptr (some (l0, 0))))), (1, .cv (.val (.int .i64 depth)))], h.on []⟩
    refine w_seq ?_
    refine A_region ?_
    refine w_n ?_
    refine w_seq ?_
    refine A_ops ?_
    refine A_upto 2 ?_
    obtain ⟨r, eF1, hr⟩ := hr.bind
    refine A_call (out := ?o_eF1) (hp := ?p_eF1) ?c_eF1 ?d_eF1 ?_
    case c_eF1 => (refine syntax_parser_cat_runs (syntax_parser_regex.r fu) p depth (l0) (l0m3) ih ?_ ?_ ?_ eF1; exact A_hat; exact A_hat; exact A_ne)
    case d_eF1 => rfl
    refine A_ops_end ?_
    refine w_n ?_
    refine w_seq ?_
    refine w_K (D := D) (fun xX : (List TNode × List TToken × Int × Int × List (List TRange) × List TRule × List (Str × List TRange)) => ⟨[(4, .cv (.val (.ptr (some (h.n + 0, 0))))), (5, .cv (.row 38 (List.map eNode xX.1)))], ((h.upd l0 (.cells [.val (.sl (List.map eToken xX.2.1)), .val (.int .i64 xX.2.2.1), .val (.int .i64 xX.2.2.2.1), .val (.map (some (l0m3))), .row 35 (List.map (eL eRange) xX.2.2.2.2.1), .row 40 (List.map eRule xX.2.2.2.2.2.1)])).upd l0m3 (.map 9 (encM eS (eL eRange) xX.2.2.2.2.2.2))).on [some (.cells [.val (.int .i64 (0 : Int)), .val (.int .i64 (0 : Int)), .nil])]⟩) (fun xX : (List TNode × List TToken × Int × Int × List (List TRange) × List TRule × List (Str × List TRange)) => syntax_parser_regex.k1 xX.1 xX.2.1 xX.2.2.1 xX.2.2.2.1 xX.2.2.2.2.1 xX.2.2.2.2.2.1 xX.2.2.2.2.2.2) (fun xX s' hr ht => ?_) ?_
    · obtain ⟨l, list, place, fault, Sets, Rules, m⟩ := xX
      dsimp only [syntax_parser_regex.k1] at hr ht
      refine (w_nT ht ?_)
      refine w_seq ?_
      refine A_ops ?_
      refine A_upto 1 ?_
      obtain ⟨r1, eF2, hr⟩ := hr.bind
      refine A_call (out := ?o_eF2) (hp := ?p_eF2) ?c_eF2 ?d_eF2 ?_
      case c_eF2 => exact syntax_some_runs (2 : Int) l eF2
      case d_eF2 => rfl
      refine A_ops_end ?_
      refine w_n ?_
      refine w_ret ?_
      obtain rfl := hD _ hr
      exact (w_endRD (A_cut (os' := [some (.cells [.val (.int .i64 r1.Kind), .val (.int .i64 r1.Set), .val (.sl (List.map eNode r1.Kids))])]) (sl := [(4, .cv (.val (.ptr (some (h.n + 0, 0)))))]) (h := ((h.upd l0 (.cells [.val (.sl (List.map eToken list)), .val (.int .i64 place), .val (.int .i64 fault), .val (.map (some (l0m3))), .row 35 (List.map (eL eRange) Sets), .row 40 (List.map eRule Rules)])).upd l0m3 (.map 9 (encM eS (eL eRange) m)))) (A_wf (A_wf hwf hl0) hl0m3)) (by simp (disch := (apply Apart.mk; decide)) only [go_sem, Nat.reduceAdd, Nat.reduceLT, Nat.reduceMul, Nat.reduceLeDiff, Int.reduceToNat, Int.reduceLT, Int.reduceLE, ha0, on_atB hl0, lt_add hl0, lt_at hl0, ha0m3, on_atB hl0m3, lt_add hl0m3, lt_at hl0m3, on_updB hl0, on_atU hl0, on_updU hl0, upd_same ha0, on_updB hl0m3, on_atU hl0m3, on_updU hl0m3, upd_same ha0m3, upd_ne hn0_0m3, upd_ne (Ne.symm hn0_0m3), upd_swap hn0_0m3, on_atUU hl0, on_atUU hl0m3, on_updUU hl0, on_updUU hl0m3, upd_keep hn0_0m3 ha0m3, Tryz.results50, results_data CT_gives50, resCell, resVal.eq_2, loadOp_sv]) (Drops.on (h := ((h.upd l0 (.cells [.val (.sl (List.map eToken list)), .val (.int .i64 place), .val (.int .i64 fault), .val (.map (some (l0m3))), .row 35 (List.map (eL eRange) Sets), .row 40 (List.map eRule Rules)])).upd l0m3 (.map 9 (encM eS (eL eRange) m)))) (os := [some (.cells [.val (.int .i64 r1.Kind), .val (.int .i64 r1.Set), .val (.sl (List.map eNode r1.Kids))])]) (os' := []) (A_wf (A_wf hwf hl0) hl0m3) (Nat.le_refl _) (by simp (disch := (apply Apart.mk; decide)) only [go_sem, Nat.reduceAdd, Nat.reduceLT, Nat.reduceMul, Nat.reduceLeDiff, Int.reduceToNat, Int.reduceLT, Int.reduceLE, ha0, on_atB hl0, lt_add hl0, lt_at hl0, ha0m3, on_atB hl0m3, lt_add hl0m3, lt_at hl0m3, on_updB hl0, on_atU hl0, on_updU hl0, upd_same ha0, on_updB hl0m3, on_atU hl0m3, on_updU hl0m3, upd_same ha0m3, upd_ne hn0_0m3, upd_ne (Ne.symm hn0_0m3), upd_swap hn0_0m3, on_atUU hl0, on_atUU hl0m3, on_updUU hl0, on_updUU hl0m3, upd_keep hn0_0m3 ha0m3])) ⟨rfl, on_nil (h := ((h.upd l0 (.cells [.val (.sl (List.map eToken list)), .val (.int .i64 place), .val (.int .i64 fault), .val (.map (some (l0m3))), .row 35 (List.map (eL eRange) Sets), .row 40 (List.map eRule Rules)])).upd l0m3 (.map 9 (encM eS (eL eRange) m)))) (A_wf (A_wf hwf hl0) hl0m3)⟩)
    · refine w_block ?_
      refine w_Loop (fun xX : (List TNode × List TToken × Int × Int × List (List TRange) × List TRule × List (Str × List TRange)) => ⟨[(0, .cv (.val (.ptr (some (l0, 0))))), (1, .cv (.val (.int .i64 depth))), (4, .cv (.val (.ptr (some (h.n + 0, 0))))), (5, .cv (.row 38 (List.map eNode xX.1)))], ((h.upd l0 (.cells [.val (.sl (List.map eToken xX.2.1)), .val (.int .i64 xX.2.2.1), .val (.int .i64 xX.2.2.2.1), .val (.map (some (l0m3))), .row 35 (List.map (eL eRange) xX.2.2.2.2.1), .row 40 (List.map eRule xX.2.2.2.2.2.1)])).upd l0m3 (.map 9 (encM eS (eL eRange) xX.2.2.2.2.2.2))).on [some (.cells [.val (.int .i64 (0 : Int)), .val (.int .i64 (0 : Int)), .nil])]⟩) hr (A_cut (A_wf (A_wf hwf hl0) hl0m3)) (fun W1 xX hr => ?_)
      obtain ⟨l1, list1, place1, fault1, Sets1, Rules1, m1⟩ := xX
      dsimp only [syntax_parser_regex.b1] at hr
      refine w_seq ?_
      refine w_seq ?_
      refine A_ops ?_
      refine A_upto 3 ?_
      obtain ⟨r2, eF3, hr⟩ := hr.bind
      refine A_call (out := ?o_eF3) (hp := ?p_eF3) ?c_eF3 ?d_eF3 ?_
      case c_eF3 => (refine syntax_tokens_is_runs (Tsyntax_parser.mk (Tsyntax_tokens.mk list1 place1 fault1) m1 (TProgram.mk Sets1 Rules1)) ([124] : Str) (l0) (l0m3) ?_ ?_ ?_ eF3; exact A_hat; exact A_hat; exact A_ne)
      case d_eF3 => rfl
      refine w_ops_nil ?_
      refine w_n ?_
      refine A_condH hr (fun cF4 hr => ?_) (fun cF4 hr => ?_)
      · refine w_skip ?_
        refine w_n ?_
        refine w_block ?_
        refine w_seq ?_
        refine A_region ?_
        refine w_n ?_
        refine A_ops ?_
        refine A_upto 3 ?_
        obtain ⟨r3, eF5, hr⟩ := hr.bind
        refine A_call (out := ?o_eF5) (hp := ?p_eF5) ?c_eF5 ?d_eF5 ?_
        case c_eF5 => (refine syntax_parser_cat_runs (syntax_parser_regex.r fu) (Tsyntax_parser.mk (Tsyntax_tokens.mk list1 (IntKind.i64.wrap (place1 + (1 : Int))) fault1) m1 (TProgram.mk Sets1 Rules1)) depth (l0) (l0m3) ih ?_ ?_ ?_ eF5; exact A_hat; exact A_hat; exact A_ne)
        case d_eF5 => rfl
        obtain ⟨nF6, hr⟩ := hr.room
        refine A_ops_end ?_
        exact (w_bn (w_k ⟨((l1 ++ ([r3.1])), r3.2.tokens.list, r3.2.tokens.place, r3.2.tokens.fault, r3.2.program.Sets, r3.2.program.Rules, r3.2.names), hr, (A_cut (A_wf (A_wf hwf hl0) hl0m3))⟩))
      · refine w_exit ?_
        exact (w_te (w_te (w_bx (w_k ⟨(l1, list1, place1, fault1, Sets1, Rules1, m1), (hr).map, (A_cut (A_wf (A_wf hwf hl0) hl0m3))⟩))))
theorem syntax_parser_regex_runs (p : Tsyntax_parser) (depth : Int) (l0 : Nat) (l0m3 : Nat) {h : Heap} (ha0 : h.at_ l0 = some (.cells [.val (.sl (List.map eToken p.tokens.list)), .val (.int .i64 p.tokens.place), .val (.int .i64 p.tokens.fault), .val (.map (some (l0m3))), .row 35 (List.map (eL eRange) p.program.Sets), .row 40 (List.map eRule p.program.Rules)])) (ha0m3 : h.at_ l0m3 = some (.map 9 (encM eS (eL eRange) p.names))) (hn0_0m3 : l0 ≠ l0m3) {a : (TNode × Tsyntax_parser)} (e : syntax_parser_regex p depth = some a) :
    Runs CT 50 [.cv (.val (.ptr (some (l0, 0)))), .cv (.val (.int .i64 depth))] h fun o h' => o = [.cv (.val (.agg [.int .i64 a.1.Kind, .int .i64 a.1.Set, .sl (List.map eNode a.1.Kids)]))] ∧ h' = ((h.upd l0 (.cells [.val (.sl (List.map eToken a.2.tokens.list)), .val (.int .i64 a.2.tokens.place), .val (.int .i64 a.2.tokens.fault), .val (.map (some (l0m3))), .row 35 (List.map (eL eRange) a.2.program.Sets), .row 40 (List.map eRule a.2.program.Rules)])).upd l0m3 (.map 9 (encM eS (eL eRange) a.2.names))) := by
  obtain ⟨fuN, fuH⟩ := lim_some e
  exact syntax_parser_regex_runs_r fuN p depth l0 l0m3 ha0 ha0m3 hn0_0m3 (fuH fuN (Nat.le_refl fuN))
end Go.Val

/- part LW27 -/
/- (*scansion/syntax.parser).rule runs as it is read off. -/
namespace Go.Val
set_option maxRecDepth 20000
open Go.Proofs
theorem syntax_parser_rule_runs (p : Tsyntax_parser) (l0 : Nat) (l0m3 : Nat) {h : Heap} (ha0 : h.at_ l0 = some (.cells [.val (.sl (List.map eToken p.tokens.list)), .val (.int .i64 p.tokens.place), .val (.int .i64 p.tokens.fault), .val (.map (some (l0m3))), .row 35 (List.map (eL eRange) p.program.Sets), .row 40 (List.map eRule p.program.Rules)])) (ha0m3 : h.at_ l0m3 = some (.map 9 (encM eS (eL eRange) p.names))) (hn0_0m3 : l0 ≠ l0m3) {a : Tsyntax_parser} (e : syntax_parser_rule p = some a) :
    Runs CT 27 [.cv (.val (.ptr (some (l0, 0))))] h fun o h' => o = [] ∧ h' = ((h.upd l0 (.cells [.val (.sl (List.map eToken a.tokens.list)), .val (.int .i64 a.tokens.place), .val (.int .i64 a.tokens.fault), .val (.map (some (l0m3))), .row 35 (List.map (eL eRange) a.program.Sets), .row 40 (List.map eRule a.program.Rules)])).upd l0m3 (.map 9 (encM eS (eL eRange) a.names))) := by
  refine Runs.start Tryz.f27 _ Tryz.func27 rfl (by rw [Tryz.ntmps27]; simp) (by rfl) (by rfl) (fun hwf hu => ?_)
  have hl0 := (hwf _ _ ha0).1
  have kl0 := locF hl0
  have hl0m3 := (hwf _ _ ha0m3).1
  have kl0m3 := locF hl0m3
  have ku0 := updF hl0 ha0
  have ku0m3 := updF hl0m3 ha0m3
  have kp0_0m3 := updP hn0_0m3
  have kk0_0m3 := keepF hn0_0m3 ha0m3
  obtain ⟨D, hD, hr⟩ : ∃ D : Tsyntax_parser → Prop, (∀ z, D z → z = a) ∧ Holds (syntax_parser_rule p) D := ⟨fun z => z = a, fun _ h => h, Holds.intro e rfl⟩
  dsimp only [syntax_parser_rule] at hr
  change wpCode _ _ _ _ _ ⟨[(0, .cv (.val (.ptr (some (l0, 0)))))], h.on []⟩
  refine w_seq ?_
  refine w_seq ?_
  refine A_region ?_
  refine w_n ?_
  refine A_condH hr (fun cF1 hr => ?_) (fun cF1 hr => ?_)
  · refine w_seq ?_
    refine A_ops ?_
    refine A_upto 3 ?_
    obtain ⟨r, eF2, hr⟩ := hr.bind
    refine A_call (out := ?o_eF2) (hp := ?p_eF2) ?c_eF2 ?d_eF2 ?_
    case c_eF2 => (refine syntax_tokens_fail_runs p (3 : Int) (l0) (l0m3) ?_ ?_ ?_ eF2; exact A_hat; exact A_hat; exact A_ne)
    case d_eF2 => rfl
    refine w_ops_nil ?_
    refine w_n ?_
    refine w_ret ?_
    obtain rfl := hD _ hr
    exact (w_tr (A_endR (A_cut (os' := []) (sl := []) (h := ((h.upd l0 (.cells [.val (.sl (List.map eToken r.tokens.list)), .val (.int .i64 r.tokens.place), .val (.int .i64 r.tokens.fault), .val (.map (some (l0m3))), .row 35 (List.map (eL eRange) r.program.Sets), .row 40 (List.map eRule r.program.Rules)])).upd l0m3 (.map 9 (encM eS (eL eRange) r.names)))) (A_wf (A_wf hwf hl0) hl0m3)) ⟨rfl, on_nil (A_wf (A_wf hwf hl0) hl0m3)⟩))
  · refine w_skip ?_
    refine w_n ?_
    refine w_seq ?_
    refine A_ops ?_
    refine A_upto 3 ?_
    obtain ⟨r1, eF3, hr⟩ := hr.bind
    refine A_call (out := ?o_eF3) (hp := ?p_eF3) ?c_eF3 ?d_eF3 ?_
    case c_eF3 => (refine syntax_tokens_now_runs p (l0) (l0m3) ?_ ?_ ?_ eF3; exact A_hat; exact A_hat; exact A_ne)
    case d_eF3 => rfl
    refine A_ops_end ?_
    refine w_n ?_
    refine w_seq ?_
    refine A_region ?_
    refine w_n ?_
    refine w_seq ?_
    refine A_ops ?_
    refine A_upto 1 ?_
    obtain ⟨r2, eF4, hr⟩ := hr.bind
    refine A_call (out := ?o_eF4) (hp := ?p_eF4) ?c_eF4 ?d_eF4 ?_
    case c_eF4 => (refine syntax_parser_regex_runs (Tsyntax_parser.mk (Tsyntax_tokens.mk p.tokens.list (IntKind.i64.wrap (p.tokens.place + (1 : Int))) p.tokens.fault) p.names p.program) (0 : Int) (l0) (l0m3) ?_ ?_ ?_ eF4; exact A_hat; exact A_hat; exact A_ne)
    case d_eF4 => rfl
    refine A_ops_end ?_
    refine w_n ?_
    refine w_seq ?_
    refine A_ops ?_
    refine A_upto 3 ?_
    obtain ⟨r3, eF5, hr⟩ := hr.bind
    refine A_call (out := ?o_eF5) (hp := ?p_eF5) ?c_eF5 ?d_eF5 ?_
    case c_eF5 => (refine syntax_tokens_take_runs r2.2 ([47] : Str) (l0) (l0m3) ?_ ?_ ?_ eF5; exact A_hat; exact A_hat; exact A_ne)
    case d_eF5 => rfl
    refine w_ops_nil ?_
    refine w_n ?_
    refine w_seq ?_
    refine A_ops ?_
    refine A_upto 1 ?_
    obtain ⟨r4, eF6, hr⟩ := hr.bind
    refine A_call (out := ?o_eF6) (hp := ?p_eF6) ?c_eF6 ?d_eF6 ?_
    case c_eF6 => (refine syntax_parser_regex_runs r3 (0 : Int) (l0) (l0m3) ?_ ?_ ?_ eF6; exact A_hat; exact A_hat; exact A_ne)
    case d_eF6 => rfl
    refine A_ops_end ?_
    refine w_n ?_
    refine w_seq ?_
    refine A_ops ?_
    refine A_upto 3 ?_
    obtain ⟨r5, eF7, hr⟩ := hr.bind
    refine A_call (out := ?o_eF7) (hp := ?p_eF7) ?c_eF7 ?d_eF7 ?_
    case c_eF7 => (refine syntax_tokens_take_runs r4.2 ([59] : Str) (l0) (l0m3) ?_ ?_ ?_ eF7; exact A_hat; exact A_hat; exact A_ne)
    case d_eF7 => rfl
    refine w_ops_nil ?_
    refine w_n ?_
    refine w_drawn [0, 1, 2, 3, 4, 5, 6, 7, 8, 9, 10, 11, 12] (by rfl) ?_
    obtain ⟨nF8, hr⟩ := hr.room
    refine A_prun [0, 1, 2, 3, 4, 5, 6, 7] [7, 6, 5, 4, 3, 2, 1, 0] ?_
    refine A_pop [0] ?_
    refine A_prun [9, 10, 11] [11, 10, 9, 0] ?_
    refine A_pop [] ?_
    refine A_pend ?_
    obtain rfl := hD _ hr
    exact (A_endN (A_cut (os' := []) (sl := []) (h := ((h.upd l0 (.cells [.val (.sl (List.map eToken r5.tokens.list)), .val (.int .i64 r5.tokens.place), .val (.int .i64 r5.tokens.fault), .val (.map (some (l0m3))), .row 35 (List.map (eL eRange) r5.program.Sets), .row 40 (List.map eRule (r5.program.Rules ++ ([(TRule.mk (r1.Text == ([98, 114, 101, 97, 107] : Str)) r2.1 r4.1)])))])).upd l0m3 (.map 9 (encM eS (eL eRange) r5.names)))) (A_wf (A_wf hwf hl0) hl0m3)) ⟨rfl, on_nil (A_wf (A_wf hwf hl0) hl0m3)⟩)
end Go.Val

/- part LW11 -/
/- scansion/syntax.Parse runs as it is read off. -/
namespace Go.Val
set_option maxRecDepth 20000
open Go.Proofs
theorem syntax_Parse_runs (b : List UInt8) {h : Heap} {a : (TProgram × Int × Int)} (e : syntax_Parse b = some a) :
    Runs CT 11 [.cv (.val (.sl (List.map eU b)))] h fun o h' => o = [.cv (.val (.agg [.sl (List.map (eL eRange) a.1.Sets), .sl (List.map eRule a.1.Rules)])), .cv (.val (.int .i64 a.2.1)), .cv (.val (.int .i64 a.2.2))] ∧ h' = h := by
  refine Runs.start Tryz.f11 _ Tryz.func11 rfl (by rw [Tryz.ntmps11]; simp) (by rfl) (by rfl) (fun hwf hu => ?_)
  obtain ⟨D, hD, hr⟩ : ∃ D : (TProgram × Int × Int) → Prop, (∀ z, D z → z = a) ∧ Holds (syntax_Parse b) D := ⟨fun z => z = a, fun _ h => h, Holds.intro e rfl⟩
  dsimp only [syntax_Parse] at hr
  change wpCode _ _ _ _ _ ⟨[(0, .cv (.val (.sl (List.map eU b))))], h.on []⟩
  refine w_seq ?_
  refine A_region ?_
  refine w_n ?_
  refine w_seq ?_
  refine A_ops ?_
  refine A_upto 1 ?_
  obtain ⟨r, eF1, hr⟩ := hr.bind
  refine A_call (out := ?o_eF1) (hp := ?p_eF1) ?c_eF1 ?d_eF1 ?_
  case c_eF1 => exact lex_Tokens_runs b eF1
  case d_eF1 => rfl
  refine A_ops_end ?_
  refine w_n ?_
  refine w_seq ?_
  refine w_seq ?_
  refine A_region ?_
  refine w_n ?_
  refine A_condH hr (fun cF2 hr => ?_) (fun cF2 hr => ?_)
  · refine w_seq ?_
    refine A_region ?_
    refine w_n ?_
    refine w_ret ?_
    obtain rfl := hD _ hr
    exact (w_tr (w_endRD (A_cut (os' := [some (.cells [.val (.sl (List.map (eL eRange) ([] : List (List TRange)))), .val (.sl (List.map eRule ([] : List TRule)))])]) (sl := [(2, .cv (.val (.ptr (some (h.n + 0, 0))))), (3, .cv (.val (.int .i64 r.2.1))), (4, .cv (.val (.int .i64 r.2.2)))]) hwf) (by simp (disch := (apply Apart.mk; decide)) only [go_sem, Nat.reduceAdd, Nat.reduceLT, Nat.reduceMul, Nat.reduceLeDiff, Int.reduceToNat, Int.reduceLT, Int.reduceLE, Tryz.results11, results_data CT_gives11, resCell, resVal.eq_2, loadOp_sv, cF2]) (Drops.on (os := [some (.cells [.val (.sl (List.map (eL eRange) ([] : List (List TRange)))), .val (.sl (List.map eRule ([] : List TRule)))])]) (os' := []) hwf (Nat.le_refl _) (by simp (disch := (apply Apart.mk; decide)) only [go_sem, Nat.reduceAdd, Nat.reduceLT, Nat.reduceMul, Nat.reduceLeDiff, Int.reduceToNat, Int.reduceLT, Int.reduceLE, cF2])) ⟨rfl, on_nil hwf⟩))
  · refine w_skip ?_
    refine w_n ?_
    refine w_seq ?_
    refine A_region ?_
    refine w_n ?_
    refine w_seq ?_
    refine w_K (D := D) (fun xX : (List (Str × List TRange) × List TToken × Int × Int × List (List TRange) × List TRule) => ⟨[(2, .cv (.val (.ptr (some (h.n + 0, 0))))), (8, .cv (.val (.ptr (some (h.n + 2, 0)))))], h.on [some (.cells [.nil, .nil]), some (.map 9 (encM eS (eL eRange) xX.1)), some (.cells [.val (.sl (List.map eToken xX.2.1)), .val (.int .i64 xX.2.2.1), .val (.int .i64 xX.2.2.2.1), .val (.map (some (h.n + 1))), .row 35 (List.map (eL eRange) xX.2.2.2.2.1), .row 40 (List.map eRule xX.2.2.2.2.2)])]⟩) (fun xX : (List (Str × List TRange) × List TToken × Int × Int × List (List TRange) × List TRule) => syntax_Parse.k1 xX.1 xX.2.1 xX.2.2.1 xX.2.2.2.1 xX.2.2.2.2.1 xX.2.2.2.2.2) (fun xX s' hr ht => ?_) ?_
    · obtain ⟨m, list, place, fault, Sets, Rules⟩ := xX
      dsimp only [syntax_Parse.k1] at hr ht
      refine (w_nT ht ?_)
      refine w_seq ?_
      refine w_seq ?_
      refine A_region ?_
      refine w_n ?_
      refine A_condH hr (fun cF3 hr => ?_) (fun cF3 hr => ?_)
      · refine w_seq ?_
        refine w_drawn [0, 1, 2, 3, 6, 7, 8, 9, 10, 4, 5, 11, 12, 13] (by rfl) ?_
        refine A_prun [0, 1, 2, 3, 6, 7, 8, 9, 10] [10, 9, 8, 7, 6, 3, 2, 1, 0] ?_
        obtain ⟨r1, eF4, hr⟩ := hr.bind
        refine A_pcall [10, 9, 8, 7, 6, 0] (out := ?o_eF4) (hp := ?p_eF4) ?c_eF4 ?d_eF4 ?_
        case c_eF4 => (refine syntax_tokens_now_runs (Tsyntax_parser.mk (Tsyntax_tokens.mk list place fault) m (TProgram.mk Sets Rules)) (h.n + 2) (h.n + 1) ?_ ?_ ?_ eF4; (simp (disch := (apply Apart.mk; decide)) only [go_sem, Nat.reduceAdd, Nat.reduceLT, Nat.reduceMul, Nat.reduceLeDiff, Int.reduceToNat, Int.reduceLT, Int.reduceLE]); (simp (disch := (apply Apart.mk; decide)) only [go_sem, Nat.reduceAdd, Nat.reduceLT, Nat.reduceMul, Nat.reduceLeDiff, Int.reduceToNat, Int.reduceLT, Int.reduceLE]); (first | omega | assumption | exact Ne.symm (by assumption)))
        case d_eF4 => rfl
        refine A_prun [5] [5, 10, 9, 8, 7, 6, 0] ?_
        refine A_pop [5, 10, 9, 8, 7, 6] ?_
        refine A_pop [10, 9, 8, 7, 6] ?_
        refine A_pop [] ?_
        refine A_pend ?_
        refine w_n ?_
        refine w_ret ?_
        obtain rfl := hD _ hr
        exact (w_tr (w_endRD (A_cut (os' := [some (.cells [.val (.sl (List.map (eL eRange) ([] : List (List TRange)))), .val (.sl (List.map eRule ([] : List TRule)))])]) (sl := [(2, .cv (.val (.ptr (some (h.n + 0, 0))))), (3, .cv (.val (.int .i64 r1.At))), (4, .cv (.val (.int .i64 fault)))]) hwf) (by simp (disch := (apply Apart.mk; decide)) only [go_sem, Nat.reduceAdd, Nat.reduceLT, Nat.reduceMul, Nat.reduceLeDiff, Int.reduceToNat, Int.reduceLT, Int.reduceLE, Tryz.results11, results_data CT_gives11, resCell, resVal.eq_2, loadOp_sv, cF2, cF3]) (Drops.on (os := [some (.cells [.val (.sl (List.map (eL eRange) ([] : List (List TRange)))), .val (.sl (List.map eRule ([] : List TRule)))])]) (os' := []) hwf (Nat.le_refl _) (by simp (disch := (apply Apart.mk; decide)) only [go_sem, Nat.reduceAdd, Nat.reduceLT, Nat.reduceMul, Nat.reduceLeDiff, Int.reduceToNat, Int.reduceLT, Int.reduceLE, cF2, cF3])) ⟨rfl, on_nil hwf⟩))
      · refine w_skip ?_
        refine w_n ?_
        refine w_seq ?_
        refine w_toR (.fix _ _ (.cell (h.n + 2) 4) 35 _ (by simp (disch := (apply Apart.mk; decide)) only [go_sem, Nat.reduceAdd, Nat.reduceLT, Nat.reduceMul, Nat.reduceLeDiff, Int.reduceToNat, Int.reduceLT, Int.reduceLE, cF2, cF3]; rfl) (.refl _)) ?_
        refine w_toR (.fix _ _ (.cell (h.n + 2) 5) 40 _ (by simp (disch := (apply Apart.mk; decide)) only [go_sem, Nat.reduceAdd, Nat.reduceLT, Nat.reduceMul, Nat.reduceLeDiff, Int.reduceToNat, Int.reduceLT, Int.reduceLE, cF2, cF3]; rfl) (.refl _)) ?_
        refine A_region ?_
        refine w_n ?_
        refine w_ret ?_
        obtain rfl := hD _ hr
        exact (w_endRD (A_cut (os' := [some (.cells [.val (.sl (List.map (eL eRange) (TProgram.mk Sets Rules).Sets)), .val (.sl (List.map eRule (TProgram.mk Sets Rules).Rules))])]) (sl := [(2, .cv (.val (.ptr (some (h.n + 0, 0))))), (3, .cv (.val (.int .i64 (0 : Int)))), (4, .cv (.val (.int .i64 (0 : Int))))]) hwf) (by simp (disch := (apply Apart.mk; decide)) only [go_sem, Nat.reduceAdd, Nat.reduceLT, Nat.reduceMul, Nat.reduceLeDiff, Int.reduceToNat, Int.reduceLT, Int.reduceLE, Tryz.results11, results_data CT_gives11, resCell, resVal.eq_2, loadOp_sv, cF2, cF3]) (Drops.on (os := [some (.cells [.val (.sl (List.map (eL eRange) (TProgram.mk Sets Rules).Sets)), .val (.sl (List.map eRule (TProgram.mk Sets Rules).Rules))])]) (os' := []) hwf (Nat.le_refl _) (by simp (disch := (apply Apart.mk; decide)) only [go_sem, Nat.reduceAdd, Nat.reduceLT, Nat.reduceMul, Nat.reduceLeDiff, Int.reduceToNat, Int.reduceLT, Int.reduceLE, cF2, cF3])) ⟨rfl, on_nil hwf⟩)
    · refine w_block ?_
      refine w_Loop (fun xX : (List (Str × List TRange) × List TToken × Int × Int × List (List TRange) × List TRule) => ⟨[(2, .cv (.val (.ptr (some (h.n + 0, 0))))), (8, .cv (.val (.ptr (some (h.n + 2, 0)))))], h.on [some (.cells [.nil, .nil]), some (.map 9 (encM eS (eL eRange) xX.1)), some (.cells [.val (.sl (List.map eToken xX.2.1)), .val (.int .i64 xX.2.2.1), .val (.int .i64 xX.2.2.2.1), .val (.map (some (h.n + 1))), .row 35 (List.map (eL eRange) xX.2.2.2.2.1), .row 40 (List.map eRule xX.2.2.2.2.2)])]⟩) hr (A_cut hwf) (fun W1 xX hr => ?_)
      obtain ⟨m1, list1, place1, fault1, Sets1, Rules1⟩ := xX
      dsimp only [syntax_Parse.b1] at hr
      refine w_seq ?_
      obtain ⟨v, vF7, hr⟩ := hr.bind
      refine w_joinR (sj := ⟨[(2, .cv (.val (.ptr (some (h.n + 0, 0))))), (8, .cv (.val (.ptr (some (h.n + 2, 0))))), (39, .cv (.val (.bool v)))], h.on [some (.cells [.nil, .nil]), some (.map 9 (encM eS (eL eRange) m1)), some (.cells [.val (.sl (List.map eToken list1)), .val (.int .i64 place1), .val (.int .i64 fault1), .val (.map (some (h.n + 1))), .row 35 (List.map (eL eRange) Sets1), .row 40 (List.map eRule Rules1)])]⟩) (A_ops ?_) ?_
      · have hr := Holds.intro (D := fun z => z = v) vF7 rfl
        refine A_upto 7 ?_
        rcases hr.ite with ⟨cF5, hr⟩ | ⟨cF5, hr⟩
        · refine A_upto 3 ?_
          obtain ⟨r2, eF6, hr⟩ := hr.bind
          refine A_call (out := ?o_eF6) (hp := ?p_eF6) ?c_eF6 ?d_eF6 ?_
          case c_eF6 => (refine syntax_tokens_now_runs (Tsyntax_parser.mk (Tsyntax_tokens.mk list1 place1 fault1) m1 (TProgram.mk Sets1 Rules1)) (h.n + 2) (h.n + 1) ?_ ?_ ?_ eF6; (simp (disch := (apply Apart.mk; decide)) only [go_sem, Nat.reduceAdd, Nat.reduceLT, Nat.reduceMul, Nat.reduceLeDiff, Int.reduceToNat, Int.reduceLT, Int.reduceLE]); (simp (disch := (apply Apart.mk; decide)) only [go_sem, Nat.reduceAdd, Nat.reduceLT, Nat.reduceMul, Nat.reduceLeDiff, Int.reduceToNat, Int.reduceLT, Int.reduceLE]); (first | omega | assumption | exact Ne.symm (by assumption)))
          case d_eF6 => rfl
          refine A_ops_end ?_
          obtain rfl : _ = v := hr
          exact w_k (A_cut hwf)
        · refine A_upto 3 ?_
          refine A_off ?_
          refine A_ops_end ?_
          obtain rfl : _ = v := hr
          exact w_k (A_cut hwf)
      refine A_condH hr (fun cF8 hr => ?_) (fun cF8 hr => ?_)
      · refine w_skip ?_
        refine w_n ?_
        refine w_K (D := (Aft W1 D)) (fun xX : (List (Str × List TRange) × List TToken × Int × Int × List (List TRange) × List TRule) => ⟨[(2, .cv (.val (.ptr (some (h.n + 0, 0))))), (8, .cv (.val (.ptr (some (h.n + 2, 0)))))], h.on [some (.cells [.nil, .nil]), some (.map 9 (encM eS (eL eRange) xX.1)), some (.cells [.val (.sl (List.map eToken xX.2.1)), .val (.int .i64 xX.2.2.1), .val (.int .i64 xX.2.2.2.1), .val (.map (some (h.n + 1))), .row 35 (List.map (eL eRange) xX.2.2.2.2.1), .row 40 (List.map eRule xX.2.2.2.2.2)])]⟩) (fun xX : (List (Str × List TRange) × List TToken × Int × Int × List (List TRange) × List TRule) => syntax_Parse.k2 xX.1 xX.2.1 xX.2.2.1 xX.2.2.2.1 xX.2.2.2.2.1 xX.2.2.2.2.2) (fun xX s' hr ht => ?_) ?_
        · obtain ⟨m2, list2, place2, fault2, Sets2, Rules2⟩ := xX
          dsimp only [syntax_Parse.k2] at hr ht
          exact (w_k ⟨(m2, list2, place2, fault2, Sets2, Rules2), hr, (To.trans ht (A_cut hwf))⟩)
        · refine w_block ?_
          refine w_seq ?_
          refine A_ops ?_
          refine A_upto 3 ?_
          obtain ⟨r3, eF9, hr⟩ := hr.bind
          refine A_call (out := ?o_eF9) (hp := ?p_eF9) ?c_eF9 ?d_eF9 ?_
          case c_eF9 => (refine syntax_tokens_now_runs (Tsyntax_parser.mk (Tsyntax_tokens.mk list1 place1 fault1) m1 (TProgram.mk Sets1 Rules1)) (h.n + 2) (h.n + 1) ?_ ?_ ?_ eF9; (simp (disch := (apply Apart.mk; decide)) only [go_sem, Nat.reduceAdd, Nat.reduceLT, Nat.reduceMul, Nat.reduceLeDiff, Int.reduceToNat, Int.reduceLT, Int.reduceLE]); (simp (disch := (apply Apart.mk; decide)) only [go_sem, Nat.reduceAdd, Nat.reduceLT, Nat.reduceMul, Nat.reduceLeDiff, Int.reduceToNat, Int.reduceLT, Int.reduceLE]); (first | omega | assumption | exact Ne.symm (by assumption)))
          case d_eF9 => rfl
          refine A_ops_end ?_
          refine w_n ?_
          refine w_block ?_
          obtain ⟨v1, vF12, hr⟩ := hr.bind
          refine w_joinR (sj := ⟨[(2, .cv (.val (.ptr (some (h.n + 0, 0))))), (8, .cv (.val (.ptr (some (h.n + 2, 0))))), (9, .cv (.val (.ptr (some (h.n + 3, 0))))), (46, .cv (.val (.bool v1)))], h.on [some (.cells [.nil, .nil]), some (.map 9 (encM eS (eL eRange) m1)), some (.cells [.val (.sl (List.map eToken list1)), .val (.int .i64 place1), .val (.int .i64 fault1), .val (.map (some (h.n + 1))), .row 35 (List.map (eL eRange) Sets1), .row 40 (List.map eRule Rules1)]), some (.cells [.val (.int .i64 r3.Kind), .val (.int .i64 r3.At), .val (.str (bs r3.Text)), .val (.sl (List.map eRange r3.Set))])]⟩) (A_ops ?_) ?_
          · have hr := Holds.intro (D := fun z => z = v1) vF12 rfl
            refine A_upto 4 ?_
            rcases hr.ite with ⟨cF10, hr⟩ | ⟨cF10, hr⟩
            · refine A_upto 2 ?_
              refine A_off ?_
              refine A_ops_end ?_
              obtain rfl : _ = v1 := hr
              exact w_k (A_cut hwf)
            · refine A_upto 2 ?_
              obtain ⟨r4, eF11, hr⟩ := hr.bind
              refine A_call (out := ?o_eF11) (hp := ?p_eF11) ?c_eF11 ?d_eF11 ?_
              case c_eF11 => exact syntax_kept_runs r3.Text eF11
              case d_eF11 => rfl
              refine A_ops_end ?_
              obtain rfl : _ = v1 := hr
              exact w_k (A_cut hwf)
          refine A_condH hr (fun cF13 hr => ?_) (fun cF13 hr => ?_)
          · refine A_ops ?_
            refine A_upto 3 ?_
            obtain ⟨r5, eF14, hr⟩ := hr.bind
            refine A_call (out := ?o_eF14) (hp := ?p_eF14) ?c_eF14 ?d_eF14 ?_
            case c_eF14 => (refine syntax_tokens_fail_runs (Tsyntax_parser.mk (Tsyntax_tokens.mk list1 place1 fault1) m1 (TProgram.mk Sets1 Rules1)) (6 : Int) (h.n + 2) (h.n + 1) ?_ ?_ ?_ eF14; (simp (disch := (apply Apart.mk; decide)) only [go_sem, Nat.reduceAdd, Nat.reduceLT, Nat.reduceMul, Nat.reduceLeDiff, Int.reduceToNat, Int.reduceLT, Int.reduceLE]); (simp (disch := (apply Apart.mk; decide)) only [go_sem, Nat.reduceAdd, Nat.reduceLT, Nat.reduceMul, Nat.reduceLeDiff, Int.reduceToNat, Int.reduceLT, Int.reduceLE]); (first | omega | assumption | exact Ne.symm (by assumption)))
            case d_eF14 => rfl
            refine w_ops_nil ?_
            exact (w_bn (w_bn (w_k ⟨(r5.names, r5.tokens.list, r5.tokens.place, r5.tokens.fault, r5.program.Sets, r5.program.Rules), hr, (A_cut hwf)⟩)))
          · refine w_seq ?_
            refine A_region ?_
            refine w_n ?_
            refine A_condH hr (fun cF15 hr => ?_) (fun cF15 hr => ?_)
            · exact hr.elim
            · refine A_ops ?_
              refine A_upto 1 ?_
              obtain ⟨r6, eF16, hr⟩ := hr.bind
              refine A_call (out := ?o_eF16) (hp := ?p_eF16) ?c_eF16 ?d_eF16 ?_
              case c_eF16 => (refine syntax_parser_rule_runs (Tsyntax_parser.mk (Tsyntax_tokens.mk list1 place1 fault1) m1 (TProgram.mk Sets1 Rules1)) (h.n + 2) (h.n + 1) ?_ ?_ ?_ eF16; (simp (disch := (apply Apart.mk; decide)) only [go_sem, Nat.reduceAdd, Nat.reduceLT, Nat.reduceMul, Nat.reduceLeDiff, Int.reduceToNat, Int.reduceLT, Int.reduceLE]); (simp (disch := (apply Apart.mk; decide)) only [go_sem, Nat.reduceAdd, Nat.reduceLT, Nat.reduceMul, Nat.reduceLeDiff, Int.reduceToNat, Int.reduceLT, Int.reduceLE]); (first | omega | assumption | exact Ne.symm (by assumption)))
              case d_eF16 => rfl
              refine w_ops_nil ?_
              exact (w_bn (w_bn (w_k ⟨(r6.names, r6.tokens.list, r6.tokens.place, r6.tokens.fault, r6.program.Sets, r6.program.Rules), hr, (A_cut hwf)⟩)))
      · refine w_exit ?_
        exact (w_te (w_te (w_bx (w_k ⟨(m1, list1, place1, fault1, Sets1, Rules1), (hr).map, (A_cut hwf)⟩))))
end Go.Val

/- part LW28 -/
/- scansion/scansionref02.Same runs as it is read off. -/
namespace Go.Val
set_option maxRecDepth 20000
open Go.Proofs
theorem scansionref02_Same_runs (a_ : List TRange) (b : List TRange) {h : Heap} {a : Bool} (e : scansionref02_Same a_ b = some a) :
    Runs CT 28 [.cv (.val (.sl (List.map eRange a_))), .cv (.val (.sl (List.map eRange b)))] h fun o h' => o = [.cv (.val (.bool a))] ∧ h' = h := by
  refine Runs.start Tryz.f28 _ Tryz.func28 rfl (by rw [Tryz.ntmps28]; simp) (by rfl) (by rfl) (fun hwf hu => ?_)
  obtain ⟨D, hD, hr⟩ : ∃ D : Bool → Prop, (∀ z, D z → z = a) ∧ Holds (scansionref02_Same a_ b) D := ⟨fun z => z = a, fun _ h => h, Holds.intro e rfl⟩
  dsimp only [scansionref02_Same] at hr
  change wpCode _ _ _ _ _ ⟨[(0, .cv (.val (.sl (List.map eRange a_)))), (1, .cv (.val (.sl (List.map eRange b))))], h.on []⟩
  refine w_seq ?_
  refine A_region ?_
  refine w_n ?_
  refine w_seq ?_
  refine w_seq ?_
  refine A_region ?_
  refine w_n ?_
  refine A_condH hr (fun cF1 hr => ?_) (fun cF1 hr => ?_)
  · refine w_seq ?_
    refine A_region ?_
    refine w_n ?_
    refine w_ret ?_
    obtain rfl := hD _ hr
    exact (w_tr (A_endR (A_cut (os' := []) (sl := [(4, .cv (.val (.bool false)))]) hwf) ⟨rfl, on_nil hwf⟩))
  · refine w_skip ?_
    refine w_n ?_
    refine w_seq ?_
    refine w_seq ?_
    refine A_region ?_
    refine w_n ?_
    refine w_K (D := D) (fun xX : Unit => ⟨[], h.on []⟩) (fun xX : Unit => scansionref02_Same.k1) (fun xX s' hr ht => ?_) ?_
    · dsimp only [scansionref02_Same.k1] at hr ht
      refine (w_nT ht ?_)
      refine w_seq ?_
      refine A_region ?_
      refine w_n ?_
      refine w_ret ?_
      obtain rfl := hD _ hr
      exact (A_endR (A_cut (os' := []) (sl := [(4, .cv (.val (.bool true)))]) hwf) ⟨rfl, on_nil hwf⟩)
    · refine w_block ?_
      refine w_Loop (fun xX : Int => ⟨[(0, .cv (.val (.sl (List.map eRange a_)))), (1, .cv (.val (.sl (List.map eRange b)))), (5, .cv (.val (.int .i64 xX)))], h.on []⟩) hr (A_cut hwf) (fun W1 xX hr => ?_)
      obtain ⟨i, rfl⟩ : ∃ z, z = xX := ⟨xX, rfl⟩
      dsimp only [scansionref02_Same.b1] at hr
      refine w_seq ?_
      refine w_seq ?_
      refine A_region ?_
      refine w_n ?_
      refine A_condH hr (fun cF2 hr => ?_) (fun cF2 hr => ?_)
      · refine w_skip ?_
        refine w_n ?_
        refine w_seq ?_
        refine w_block ?_
        refine w_seq ?_
        refine w_drawn [0, 1, 2, 3, 4, 5, 6, 7, 8] (by rfl) ?_
        obtain ⟨x, nF3, eF4, gF5, hr⟩ := hr.idx
        obtain ⟨x1, nF6, eF7, gF8, hr⟩ := hr.idx
        refine A_prun [0, 1, 2, 3, 4, 5, 6, 7, 8] [8, 7, 6, 5, 4, 3, 2, 1, 0] ?_
        refine A_pend ?_
        refine w_n ?_
        refine A_condH hr (fun cF9 hr => ?_) (fun cF9 hr => ?_)
        · refine w_seq ?_
          refine A_region ?_
          refine w_n ?_
          refine w_ret ?_
          obtain rfl := hD _ hr
          exact (w_br (w_tr (w_tr (w_br (w_tr (w_tr (A_endR (A_cut (os' := []) (sl := [(4, .cv (.val (.bool false)))]) hwf) ⟨rfl, on_nil hwf⟩)))))))
        · refine w_skip ?_
          refine (w_bn (w_n ?_))
          refine A_region ?_
          exact (w_k ⟨(IntKind.i64.wrap (i + (1 : Int))), hr, (A_cut hwf)⟩)
      · refine w_exit ?_
        exact (w_te (w_te (w_bx (w_k ⟨(), (hr).map, (A_cut hwf)⟩))))
end Go.Val

/- part LW29 -/
/- scansion/scansionref08.SameNode runs as it is read off. -/
namespace Go.Val
set_option maxRecDepth 20000
open Go.Proofs
theorem scansionref08_SameNode_runs_r : ∀ (fu : Nat) (a_ : TNode) (b : TNode) {h : Heap} {a : Bool} (e : scansionref08_SameNode.r fu a_ b = some a),
    Runs CT 29 [.cv (.val (.agg [.int .i64 a_.Kind, .int .i64 a_.Set, .sl (List.map eNode a_.Kids)])), .cv (.val (.agg [.int .i64 b.Kind, .int .i64 b.Set, .sl (List.map eNode b.Kids)]))] h fun o h' => o = [.cv (.val (.bool a))] ∧ h' = h := by
  intro fu
  induction fu with
  | zero => intros; rename_i e; simp [scansionref08_SameNode.r] at e
  | succ fu ih =>
    intro a_ b h a e
    refine Runs.start Tryz.f29 _ Tryz.func29 rfl (by rw [Tryz.ntmps29]; simp) (by rfl) (by rfl) (fun hwf hu => ?_)
    obtain ⟨D, hD, hr⟩ : ∃ D : Bool → Prop, (∀ z, D z → z = a) ∧ Holds (scansionref08_SameNode.r (fu + 1) a_ b) D := ⟨fun z => z = a, fun _ h => h, Holds.intro e rfl⟩
    dsimp only [scansionref08_SameNode.r] at hr
    change wpCode _ _ _ _ _ ⟨[(0, .cv (.val (.agg [.int .i64 a_.Kind, .int .i64 a_.Set, .sl (List.map eNode a_.Kids)]))), (1, .cv (.val (.agg [.int .i64 b.Kind, .int .i64 b.Set, .sl (List.map eNode b.Kids)])))], h.on []⟩
    refine w_seq ?_
    refine A_region ?_
    refine w_n ?_
    refine w_seq ?_
    refine w_joinR (sj := ⟨[(2, .cv (.val (.ptr (some (h.n + 0, 0))))), (3, .cv (.val (.ptr (some (h.n + 1, 0))))), (27, .cv (.val (.bool ((a_.Kind != b.Kind) || ((a_.Set != b.Set) || ((a_.Kids.length : Int) != (b.Kids.length : Int)))))))], h.on [some (.cells [.val (.int .i64 a_.Kind), .val (.int .i64 a_.Set), .val (.sl (List.map eNode a_.Kids))]), some (.cells [.val (.int .i64 b.Kind), .val (.int .i64 b.Set), .val (.sl (List.map eNode b.Kids))])]⟩) (A_ops ?_) ?_
    · refine A_upto 6 ?_
      rcases Bool.eq_false_or_eq_true (a_.Kind != b.Kind) with cF1 | cF1
      · refine A_ops_end ?_
        exact w_k (A_cut hwf)
      · refine A_upto 7 ?_
        rcases Bool.eq_false_or_eq_true (a_.Set != b.Set) with cF2 | cF2
        · refine A_ops_end ?_
          exact w_k (A_cut hwf)
        · refine A_ops_end ?_
          exact w_k (A_cut hwf)
    refine A_condH hr (fun cF3 hr => ?_) (fun cF3 hr => ?_)
    · refine w_seq ?_
      refine A_region ?_
      refine w_n ?_
      refine w_ret ?_
      obtain rfl := hD _ hr
      exact (w_tr (A_endR (A_cut (os' := []) (sl := [(4, .cv (.val (.bool false)))]) hwf) ⟨rfl, on_nil hwf⟩))
    · refine w_skip ?_
      refine w_n ?_
      refine w_seq ?_
      refine w_seq ?_
      refine A_region ?_
      refine w_n ?_
      refine w_K (D := D) (fun xX : Unit => ⟨[], h.on []⟩) (fun xX : Unit => scansionref08_SameNode.k1) (fun xX s' hr ht => ?_) ?_
      · dsimp only [scansionref08_SameNode.k1] at hr ht
        refine (w_nT ht ?_)
        refine w_seq ?_
        refine A_region ?_
        refine w_n ?_
        refine w_ret ?_
        obtain rfl := hD _ hr
        exact (A_endR (A_cut (os' := []) (sl := [(4, .cv (.val (.bool true)))]) hwf) ⟨rfl, on_nil hwf⟩)
      · refine w_block ?_
        refine w_Loop (fun xX : Int => ⟨[(2, .cv (.val (.ptr (some (h.n + 0, 0))))), (3, .cv (.val (.ptr (some (h.n + 1, 0))))), (5, .cv (.val (.int .i64 xX)))], h.on [some (.cells [.val (.int .i64 a_.Kind), .val (.int .i64 a_.Set), .val (.sl (List.map eNode a_.Kids))]), some (.cells [.val (.int .i64 b.Kind), .val (.int .i64 b.Set), .val (.sl (List.map eNode b.Kids))])]⟩) hr (A_cut hwf) (fun W1 xX hr => ?_)
        obtain ⟨i, rfl⟩ : ∃ z, z = xX := ⟨xX, rfl⟩
        dsimp only [scansionref08_SameNode.b1] at hr
        refine w_seq ?_
        refine w_seq ?_
        refine A_region ?_
        refine w_n ?_
        refine A_condH hr (fun cF4 hr => ?_) (fun cF4 hr => ?_)
        · refine w_skip ?_
          refine w_n ?_
          refine w_seq ?_
          refine w_block ?_
          refine w_seq ?_
          refine w_drawn [0, 1, 2, 3, 4, 5, 6, 7, 8, 9, 10, 11] (by rfl) ?_
          obtain ⟨x, nF5, eF6, gF7, hr⟩ := hr.idx
          obtain ⟨x1, nF8, eF9, gF10, hr⟩ := hr.idx
          refine A_prun [0, 1, 2, 3, 4, 5, 6, 7, 8, 9] [9, 8, 7, 6, 5, 4, 3, 2, 1, 0] ?_
          obtain ⟨r, eF11, hr⟩ := hr.bind
          refine A_pcall [] (out := ?o_eF11) (hp := ?p_eF11) ?c_eF11 ?d_eF11 ?_
          case c_eF11 => exact ih x x1 eF11
          case d_eF11 => rfl
          refine A_pop [] ?_
          refine A_pend ?_
          refine w_n ?_
          refine w_seq ?_
          refine A_region ?_
          refine w_n ?_
          refine A_condH hr (fun cF12 hr => ?_) (fun cF12 hr => ?_)
          · refine w_seq ?_
            refine A_region ?_
            refine w_n ?_
            refine w_ret ?_
            obtain rfl := hD _ hr
            exact (w_br (w_tr (w_tr (w_br (w_tr (w_tr (A_endR (A_cut (os' := []) (sl := [(4, .cv (.val (.bool false)))]) hwf) ⟨rfl, on_nil hwf⟩)))))))
          · refine w_skip ?_
            refine (w_bn (w_n ?_))
            refine A_region ?_
            exact (w_k ⟨(IntKind.i64.wrap (i + (1 : Int))), hr, (A_cut hwf)⟩)
        · refine w_exit ?_
          exact (w_te (w_te (w_bx (w_k ⟨(), (hr).map, (A_cut hwf)⟩))))
theorem scansionref08_SameNode_runs (a_ : TNode) (b : TNode) {h : Heap} {a : Bool} (e : scansionref08_SameNode a_ b = some a) :
    Runs CT 29 [.cv (.val (.agg [.int .i64 a_.Kind, .int .i64 a_.Set, .sl (List.map eNode a_.Kids)])), .cv (.val (.agg [.int .i64 b.Kind, .int .i64 b.Set, .sl (List.map eNode b.Kids)]))] h fun o h' => o = [.cv (.val (.bool a))] ∧ h' = h := by
  obtain ⟨fuN, fuH⟩ := lim_some e
  exact scansionref08_SameNode_runs_r fuN a_ b (fuH fuN (Nat.le_refl fuN))
end Go.Val

/- part LW12 -/
/- scansion/scansionref08.Same runs as it is read off. -/
namespace Go.Val
set_option maxRecDepth 20000
open Go.Proofs
theorem scansionref08_Same_runs (a_ : TProgram) (b : TProgram) {h : Heap} {a : Bool} (e : scansionref08_Same a_ b = some a) :
    Runs CT 12 [.cv (.val (.agg [.sl (List.map (eL eRange) a_.Sets), .sl (List.map eRule a_.Rules)])), .cv (.val (.agg [.sl (List.map (eL eRange) b.Sets), .sl (List.map eRule b.Rules)]))] h fun o h' => o = [.cv (.val (.bool a))] ∧ h' = h := by
  refine Runs.start Tryz.f12 _ Tryz.func12 rfl (by rw [Tryz.ntmps12]; simp) (by rfl) (by rfl) (fun hwf hu => ?_)
  obtain ⟨D, hD, hr⟩ : ∃ D : Bool → Prop, (∀ z, D z → z = a) ∧ Holds (scansionref08_Same a_ b) D := ⟨fun z => z = a, fun _ h => h, Holds.intro e rfl⟩
  dsimp only [scansionref08_Same] at hr
  change wpCode _ _ _ _ _ ⟨[(0, .cv (.val (.agg [.sl (List.map (eL eRange) a_.Sets), .sl (List.map eRule a_.Rules)]))), (1, .cv (.val (.agg [.sl (List.map (eL eRange) b.Sets), .sl (List.map eRule b.Rules)])))], h.on []⟩
  refine w_seq ?_
  refine A_region ?_
  refine w_n ?_
  refine w_seq ?_
  refine w_joinR (sj := ⟨[(2, .cv (.val (.ptr (some (h.n + 0, 0))))), (3, .cv (.val (.ptr (some (h.n + 1, 0))))), (25, .cv (.val (.bool (((a_.Sets.length : Int) != (b.Sets.length : Int)) || ((a_.Rules.length : Int) != (b.Rules.length : Int))))))], h.on [some (.cells [.val (.sl (List.map (eL eRange) a_.Sets)), .val (.sl (List.map eRule a_.Rules))]), some (.cells [.val (.sl (List.map (eL eRange) b.Sets)), .val (.sl (List.map eRule b.Rules))])]⟩) (A_ops ?_) ?_
  · refine A_upto 8 ?_
    rcases Bool.eq_false_or_eq_true ((a_.Sets.length : Int) != (b.Sets.length : Int)) with cF1 | cF1
    · refine A_ops_end ?_
      exact w_k (A_cut hwf)
    · refine A_ops_end ?_
      exact w_k (A_cut hwf)
  refine A_condH hr (fun cF2 hr => ?_) (fun cF2 hr => ?_)
  · refine w_seq ?_
    refine A_region ?_
    refine w_n ?_
    refine w_ret ?_
    obtain rfl := hD _ hr
    exact (w_tr (A_endR (A_cut (os' := []) (sl := [(4, .cv (.val (.bool false)))]) hwf) ⟨rfl, on_nil hwf⟩))
  · refine w_skip ?_
    refine w_n ?_
    refine w_seq ?_
    refine w_seq ?_
    refine A_region ?_
    refine w_n ?_
    refine w_K (D := D) (fun xX : Unit => ⟨[(2, .cv (.val (.ptr (some (h.n + 0, 0))))), (3, .cv (.val (.ptr (some (h.n + 1, 0)))))], h.on [some (.cells [.val (.sl (List.map (eL eRange) a_.Sets)), .val (.sl (List.map eRule a_.Rules))]), some (.cells [.val (.sl (List.map (eL eRange) b.Sets)), .val (.sl (List.map eRule b.Rules))])]⟩) (fun xX : Unit => scansionref08_Same.k1 a_ b) (fun xX s' hr ht => ?_) ?_
    · dsimp only [scansionref08_Same.k1] at hr ht
      refine (w_nT ht ?_)
      refine w_seq ?_
      refine w_seq ?_
      refine A_region ?_
      refine w_n ?_
      refine w_K (D := D) (fun xX : Unit => ⟨[], h.on []⟩) (fun xX : Unit => scansionref08_Same.k2) (fun xX s' hr ht => ?_) ?_
      · dsimp only [scansionref08_Same.k2] at hr ht
        refine (w_nT ht ?_)
        refine w_seq ?_
        refine A_region ?_
        refine w_n ?_
        refine w_ret ?_
        obtain rfl := hD _ hr
        exact (A_endR (A_cut (os' := []) (sl := [(4, .cv (.val (.bool true)))]) hwf) ⟨rfl, on_nil hwf⟩)
      · refine w_block ?_
        refine w_Loop (fun xX : Int => ⟨[(2, .cv (.val (.ptr (some (h.n + 0, 0))))), (3, .cv (.val (.ptr (some (h.n + 1, 0))))), (7, .cv (.val (.int .i64 xX)))], h.on [some (.cells [.val (.sl (List.map (eL eRange) a_.Sets)), .val (.sl (List.map eRule a_.Rules))]), some (.cells [.val (.sl (List.map (eL eRange) b.Sets)), .val (.sl (List.map eRule b.Rules))])]⟩) hr (A_cut hwf) (fun W1 xX hr => ?_)
        obtain ⟨i, rfl⟩ : ∃ z, z = xX := ⟨xX, rfl⟩
        dsimp only [scansionref08_Same.b1] at hr
        refine w_seq ?_
        refine w_seq ?_
        refine A_region ?_
        refine w_n ?_
        refine A_condH hr (fun cF3 hr => ?_) (fun cF3 hr => ?_)
        · refine w_skip ?_
          refine w_n ?_
          refine w_seq ?_
          refine w_block ?_
          refine w_seq ?_
          refine w_drawn [0, 1, 2, 3, 4, 5, 6, 7, 8, 9, 10, 11, 12, 13] (by rfl) ?_
          obtain ⟨x, nF4, eF5, gF6, hr⟩ := hr.idx
          obtain ⟨x1, nF7, eF8, gF9, hr⟩ := hr.idx
          refine A_prun [0, 1, 2, 3, 4, 5, 6, 7, 8, 9, 10, 11] [11, 10, 9, 8, 7, 6, 5, 4, 3, 2, 1, 0] ?_
          obtain ⟨r, eF10, hr⟩ := hr.bind
          refine A_pcall [] (out := ?o_eF10) (hp := ?p_eF10) ?c_eF10 ?d_eF10 ?_
          case c_eF10 => exact scansionref08_SameNode_runs x.Left x1.Left eF10
          case d_eF10 => rfl
          refine A_pop [] ?_
          refine A_pend ?_
          refine w_n ?_
          refine w_seq ?_
          refine w_drawn [0, 1, 2, 3, 4, 5, 6, 7, 8, 9, 10, 11, 12, 13] (by rfl) ?_
          refine A_prun [0, 1, 2, 3, 4, 5, 6, 7, 8, 9, 10, 11] [11, 10, 9, 8, 7, 6, 5, 4, 3, 2, 1, 0] ?_
          obtain ⟨r1, eF11, hr⟩ := hr.bind
          refine A_pcall [] (out := ?o_eF11) (hp := ?p_eF11) ?c_eF11 ?d_eF11 ?_
          case c_eF11 => exact scansionref08_SameNode_runs x.Right x1.Right eF11
          case d_eF11 => rfl
          refine A_pop [] ?_
          refine A_pend ?_
          refine w_n ?_
          refine w_joinR (sj := ⟨[(2, .cv (.val (.ptr (some (h.n + 0, 0))))), (3, .cv (.val (.ptr (some (h.n + 1, 0))))), (7, .cv (.val (.int .i64 i))), (99, .cv (.val (.bool ((!(x.Break == x1.Break)) || ((!r) || (!r1))))))], h.on [some (.cells [.val (.sl (List.map (eL eRange) a_.Sets)), .val (.sl (List.map eRule a_.Rules))]), some (.cells [.val (.sl (List.map (eL eRange) b.Sets)), .val (.sl (List.map eRule b.Rules))])]⟩) (w_drawn [0, 1, 2, 3, 4, 5, 6, 7, 8, 9, 10, 11, 12, 13, 14, 15, 16, 17, 18, 19, 20] (by rfl) ?_) ?_
          · refine A_prun [0, 1, 2, 3, 4, 5, 6, 7, 8, 9, 10, 11, 12, 13] [13, 12, 11, 10, 9, 8, 7, 6, 5, 4, 3, 2, 1, 0] ?_
            rcases Bool.eq_false_or_eq_true (!(x.Break == x1.Break)) with cF12 | cF12
            · refine A_prun [14, 15, 16, 17, 18, 19, 20] [20, 19, 18, 17, 16, 15, 14, 13, 12, 11, 10, 9, 8, 7, 6, 5, 4, 3, 2, 1, 0] ?_
              refine A_pend ?_
              exact w_k (A_cut hwf)
            · refine A_prun [14, 15, 16, 17] [17, 16, 15, 14, 13, 12, 11, 10, 9, 8, 7, 6, 5, 4, 3, 2, 1, 0] ?_
              rcases Bool.eq_false_or_eq_true (!r) with cF13 | cF13
              · refine A_prun [18, 19, 20] [20, 19, 18, 17, 16, 15, 14, 13, 12, 11, 10, 9, 8, 7, 6, 5, 4, 3, 2, 1, 0] ?_
                refine A_pend ?_
                exact w_k (A_cut hwf)
              · refine A_prun [18, 19, 20] [20, 19, 18, 17, 16, 15, 14, 13, 12, 11, 10, 9, 8, 7, 6, 5, 4, 3, 2, 1, 0] ?_
                refine A_pend ?_
                exact w_k (A_cut hwf)
          refine A_condH hr (fun cF14 hr => ?_) (fun cF14 hr => ?_)
          · refine w_seq ?_
            refine A_region ?_
            refine w_n ?_
            refine w_ret ?_
            obtain rfl := hD _ hr
            exact (w_br (w_tr (w_tr (w_br (w_tr (w_tr (A_endR (A_cut (os' := []) (sl := [(4, .cv (.val (.bool false)))]) hwf) ⟨rfl, on_nil hwf⟩)))))))
          · refine w_skip ?_
            refine (w_bn (w_n ?_))
            refine A_region ?_
            exact (w_k ⟨(IntKind.i64.wrap (i + (1 : Int))), hr, (A_cut hwf)⟩)
        · refine w_exit ?_
          exact (w_te (w_te (w_bx (w_k ⟨(), (hr).map, (A_cut hwf)⟩))))
    · refine w_block ?_
      refine w_Loop (fun xX : Int => ⟨[(2, .cv (.val (.ptr (some (h.n + 0, 0))))), (3, .cv (.val (.ptr (some (h.n + 1, 0))))), (5, .cv (.val (.int .i64 xX)))], h.on [some (.cells [.val (.sl (List.map (eL eRange) a_.Sets)), .val (.sl (List.map eRule a_.Rules))]), some (.cells [.val (.sl (List.map (eL eRange) b.Sets)), .val (.sl (List.map eRule b.Rules))])]⟩) hr (A_cut hwf) (fun W2 xX hr => ?_)
      obtain ⟨i1, rfl⟩ : ∃ z, z = xX := ⟨xX, rfl⟩
      dsimp only [scansionref08_Same.b2] at hr
      refine w_seq ?_
      refine w_seq ?_
      refine A_region ?_
      refine w_n ?_
      refine A_condH hr (fun cF15 hr => ?_) (fun cF15 hr => ?_)
      · refine w_skip ?_
        refine w_n ?_
        refine w_seq ?_
        refine w_block ?_
        refine w_seq ?_
        refine w_drawn [0, 1, 2, 3, 4, 5, 6, 7, 8, 9, 10, 11] (by rfl) ?_
        obtain ⟨xs, nF16, eF17, gF18, hr⟩ := hr.idx
        obtain ⟨xs1, nF19, eF20, gF21, hr⟩ := hr.idx
        refine A_prun [0, 1, 2, 3, 4, 5, 6, 7, 8, 9] [9, 8, 7, 6, 5, 4, 3, 2, 1, 0] ?_
        obtain ⟨r2, eF22, hr⟩ := hr.bind
        refine A_pcall [] (out := ?o_eF22) (hp := ?p_eF22) ?c_eF22 ?d_eF22 ?_
        case c_eF22 => exact scansionref02_Same_runs xs xs1 eF22
        case d_eF22 => rfl
        refine A_pop [] ?_
        refine A_pend ?_
        refine w_n ?_
        refine w_seq ?_
        refine A_region ?_
        refine w_n ?_
        refine A_condH hr (fun cF23 hr => ?_) (fun cF23 hr => ?_)
        · refine w_seq ?_
          refine A_region ?_
          refine w_n ?_
          refine w_ret ?_
          obtain rfl := hD _ hr
          exact (w_br (w_tr (w_tr (w_br (w_tr (w_tr (A_endR (A_cut (os' := []) (sl := [(4, .cv (.val (.bool false)))]) hwf) ⟨rfl, on_nil hwf⟩)))))))
        · refine w_skip ?_
          refine (w_bn (w_n ?_))
          refine A_region ?_
          exact (w_k ⟨(IntKind.i64.wrap (i1 + (1 : Int))), hr, (A_cut hwf)⟩)
      · refine w_exit ?_
        exact (w_te (w_te (w_bx (w_k ⟨(), (hr).map, (A_cut hwf)⟩))))
end Go.Val

/- part LW4 -/
/- scansion/scansionlaw08.SyntaxBack runs as it is read off. -/
namespace Go.Val
set_option maxRecDepth 20000
open Go.Proofs
theorem scansionlaw08_SyntaxBack_runs (p : TProgram) {h : Heap} {a : Bool} (e : scansionlaw08_SyntaxBack p = some a) :
    Runs CT 4 [.cv (.val (.agg [.sl (List.map (eL eRange) p.Sets), .sl (List.map eRule p.Rules)]))] h fun o h' => o = [.cv (.val (.bool a))] ∧ h' = h := by
  refine Runs.start Tryz.f4 _ Tryz.func4 rfl (by rw [Tryz.ntmps4]; simp) (by rfl) (by rfl) (fun hwf hu => ?_)
  obtain ⟨D, hD, hr⟩ : ∃ D : Bool → Prop, (∀ z, D z → z = a) ∧ Holds (scansionlaw08_SyntaxBack p) D := ⟨fun z => z = a, fun _ h => h, Holds.intro e rfl⟩
  dsimp only [scansionlaw08_SyntaxBack] at hr
  change wpCode _ _ _ _ _ ⟨[(0, .cv (.val (.agg [.sl (List.map (eL eRange) p.Sets), .sl (List.map eRule p.Rules)])))], h.on []⟩
  refine w_seq ?_
  refine A_region ?_
  refine w_n ?_
  refine w_seq ?_
  refine A_ops ?_
  obtain ⟨r, eF1, hr⟩ := hr.bind
  refine A_call (out := ?o_eF1) (hp := ?p_eF1) ?c_eF1 ?d_eF1 ?_
  case c_eF1 => exact scansionlaw08_awake_runs  eF1
  case d_eF1 => rfl
  refine A_ops_end ?_
  refine w_n ?_
  refine w_seq ?_
  refine A_ops ?_
  refine A_upto 1 ?_
  obtain ⟨r1, eF2, hr⟩ := hr.bind
  refine A_call (out := ?o_eF2) (hp := ?p_eF2) ?c_eF2 ?d_eF2 ?_
  case c_eF2 => exact scansionlaw08_few_runs p eF2
  case d_eF2 => rfl
  refine A_ops_end ?_
  refine w_n ?_
  refine w_seq ?_
  refine w_joinR (sj := ⟨[(1, .cv (.val (.ptr (some (h.n + 0, 0))))), (3, .cv (.val (.bool r))), (19, .cv (.val (.bool ((!r) || (!r1)))))], h.on [some (.cells [.val (.sl (List.map (eL eRange) p.Sets)), .val (.sl (List.map eRule p.Rules))])]⟩) (A_ops ?_) ?_
  · refine A_upto 3 ?_
    rcases Bool.eq_false_or_eq_true (!r) with cF3 | cF3
    · refine A_ops_end ?_
      exact w_k (A_cut hwf)
    · refine A_ops_end ?_
      exact w_k (A_cut hwf)
  refine A_condH hr (fun cF4 hr => ?_) (fun cF4 hr => ?_)
  · refine w_seq ?_
    refine A_region ?_
    refine w_n ?_
    refine w_ret ?_
    obtain rfl := hD _ hr
    exact (w_tr (A_endR (A_cut (os' := []) (sl := [(2, .cv (.val (.bool r)))]) hwf) ⟨rfl, on_nil hwf⟩))
  · refine w_skip ?_
    refine w_n ?_
    refine w_seq ?_
    refine A_ops ?_
    refine A_upto 1 ?_
    obtain ⟨r2, eF5, hr⟩ := hr.bind
    refine A_call (out := ?o_eF5) (hp := ?p_eF5) ?c_eF5 ?d_eF5 ?_
    case c_eF5 => exact syntax_Print_runs p eF5
    case d_eF5 => rfl
    refine A_ops_end ?_
    refine w_n ?_
    refine w_seq ?_
    refine w_seq ?_
    refine A_region ?_
    refine w_n ?_
    refine A_condH hr (fun cF6 hr => ?_) (fun cF6 hr => ?_)
    · refine w_joinR (sj := ⟨[(2, .cv (.val (.bool ((r2.2 == (1 : Int)) && ((r2.1.length : Int) == (0 : Int))))))], h.on []⟩) (A_ops ?_) ?_
      · refine A_upto 3 ?_
        rcases Bool.eq_false_or_eq_true (r2.2 == (1 : Int)) with cF7 | cF7
        · refine A_ops_end ?_
          exact w_k (A_cut hwf)
        · refine A_ops_end ?_
          exact w_k (A_cut hwf)
      refine w_ret ?_
      obtain rfl := hD _ hr
      exact (w_tr (A_endR (A_cut (os' := []) (sl := [(2, .cv (.val (.bool ((r2.2 == (1 : Int)) && ((r2.1.length : Int) == (0 : Int))))))]) hwf) ⟨rfl, on_nil hwf⟩))
    · refine w_skip ?_
      refine w_n ?_
      refine w_seq ?_
      refine w_seq ?_
      refine A_region ?_
      refine w_n ?_
      refine A_condH hr (fun cF8 hr => ?_) (fun cF8 hr => ?_)
      · refine w_seq ?_
        refine A_region ?_
        refine w_n ?_
        refine w_ret ?_
        obtain rfl := hD _ hr
        exact (w_tr (A_endR (A_cut (os' := []) (sl := [(2, .cv (.val (.bool true)))]) hwf) ⟨rfl, on_nil hwf⟩))
      · refine w_skip ?_
        refine w_n ?_
        refine w_seq ?_
        refine A_ops ?_
        refine A_upto 1 ?_
        obtain ⟨r3, eF9, hr⟩ := hr.bind
        refine A_call (out := ?o_eF9) (hp := ?p_eF9) ?c_eF9 ?d_eF9 ?_
        case c_eF9 => exact syntax_Parse_runs r2.1 eF9
        case d_eF9 => rfl
        refine A_ops_end ?_
        refine w_n ?_
        refine w_seq ?_
        refine A_ops ?_
        refine A_upto 2 ?_
        obtain ⟨r4, eF10, hr⟩ := hr.bind
        refine A_call (out := ?o_eF10) (hp := ?p_eF10) ?c_eF10 ?d_eF10 ?_
        case c_eF10 => exact scansionref08_Same_runs p r3.1 eF10
        case d_eF10 => rfl
        refine A_ops_end ?_
        refine w_n ?_
        refine w_joinR (sj := ⟨[(2, .cv (.val (.bool ((r3.2.2 == (0 : Int)) && ((r3.2.1 == (0 : Int)) && r4)))))], h.on []⟩) (A_ops ?_) ?_
        · refine A_upto 3 ?_
          rcases Bool.eq_false_or_eq_true (r3.2.2 == (0 : Int)) with cF11 | cF11
          · refine A_upto 4 ?_
            rcases Bool.eq_false_or_eq_true (r3.2.1 == (0 : Int)) with cF12 | cF12
            · refine A_ops_end ?_
              exact w_k (A_cut hwf)
            · refine A_ops_end ?_
              exact w_k (A_cut hwf)
          · refine A_ops_end ?_
            exact w_k (A_cut hwf)
        refine w_ret ?_
        obtain rfl := hD _ hr
        exact (A_endR (A_cut (os' := []) (sl := [(2, .cv (.val (.bool ((r3.2.2 == (0 : Int)) && ((r3.2.1 == (0 : Int)) && r4)))))]) hwf) ⟨rfl, on_nil hwf⟩)
end Go.Val

/- part Q3l -/
/- Plain lemmas: Has, Count and Nth of ranges. -/
namespace Go.Val
theorem Norm.short : ∀ {l : List TRange} {lo : Int}, Norm l → (∀ x ∈ l, lo ≤ x.Low) → (l.length : Int) ≤ max 0 (1114112 - lo)
  | [], lo, _, _ => by simp; omega
  | x :: l, lo, h, hlo => by
    obtain ⟨h1, h2, h3⟩ := Norm_cons.1 h
    unfold Ok at h1
    have := Norm.short h3 (lo := x.High + 2) (fun y hy => by have := h2 y hy; omega)
    have := hlo x (by simp)
    simp only [List.length_cons]
    omega
theorem Norm.len {l : List TRange} (h : Norm l) : l.length ≤ 1114112 := by
  have := h.short (lo := 0) (fun x hx => (h.1 x hx).1)
  omega
theorem Norm.sep : ∀ {a : List TRange}, Norm a → ∀ x ∈ a, ∀ z ∈ a, z = x ∨ z.High + 1 < x.Low ∨ x.High + 1 < z.Low
  | [], _, x, hx, _, _ => by cases hx
  | y :: l, h, x, hx, z, hz => by
    obtain ⟨h1, h2, h3⟩ := Norm_cons.1 h
    rcases List.mem_cons.1 hx with e1 | hx1
    · rcases List.mem_cons.1 hz with e2 | hz1
      · exact .inl (e2.trans e1.symm)
      · rw [e1]; exact .inr (.inr (h2 z hz1))
    · rcases List.mem_cons.1 hz with e2 | hz1
      · rw [e2]; exact .inr (.inl (h2 x hx1))
      · exact Norm.sep h3 x hx1 z hz1
theorem Norm.below {a : List TRange} (h : Norm a) {x : TRange} (hx : x ∈ a) : ¬ In a (x.Low - 1) := by
  rintro ⟨z, hz, h1, h2⟩
  have k1 := h.1 x hx
  have k2 := h.1 z hz
  unfold Ok at k1 k2
  rcases h.sep x hx z hz with e | e | e
  · subst e; omega
  · omega
  · omega
theorem Norm.take {a : List TRange} (h : Norm a) (k : Nat) : Norm (a.take k) := ⟨fun x hx => h.1 x (List.mem_of_mem_take hx), h.2.sublist (List.take_sublist _ _)⟩
theorem Norm.drop {a : List TRange} (h : Norm a) (k : Nat) : Norm (a.drop k) := ⟨fun x hx => h.1 x (List.mem_of_mem_drop hx), h.2.sublist (List.drop_sublist _ _)⟩
/-! ### Has -/
/-! ### Count, Nth -/
def many (x : TRange) : Int := x.High - x.Low + 1
end Go.Val

/- part Q4l -/
/- Plain lemmas: the document's sets (edges, pick). -/
namespace Go.Val
/-- Where something may begin. -/
def Edge (m : List TRange) (e : Int) : Prop := e = 0 ∨ ∃ x ∈ m, e = x.Low ∨ (x.High < 1114111 ∧ e = x.High + 1)
end Go.Val

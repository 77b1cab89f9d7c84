/- A value semantics of the model's programs, sound against it, and functions read off the given program with the proofs that it runs so; no condition. -/
import Derived.Test.YtobjdbpikecnnaaOwnD
import Derived.Test.YtobjdbpikecnnaaOwnC
set_option linter.all false
set_option linter.unnecessarySimpa false
set_option linter.unusedVariables false
set_option linter.unusedSimpArgs false
/- part GW75 -/
/- scansion/scansionref17.behind runs as it is read off. -/
namespace Go.Val
set_option linter.unusedVariables false
set_option linter.unusedSimpArgs false
set_option maxRecDepth 20000
open Go.Proofs
theorem scansionref17_behind_runs (ends : List Str) (b : UInt8) {h : Heap} {a : List Str} (e : scansionref17_behind ends b = some a) :
    Runs CT 75 [.cv (.val (.sl (List.map eS ends))), .cv (.val (.int .u8 (b.toNat : Int)))] h fun o h' => o = [.cv (.val (.sl (List.map eS a)))] ∧ h' = h := by
  refine Runs.start Try.f75 _ Try.func75 rfl (by rw [Try.ntmps75]; simp) (by rfl) (by rfl) (fun hwf hu => ?_)
  obtain ⟨D, hD, hr⟩ : ∃ D : List Str → Prop, (∀ z, D z → z = a) ∧ Holds (scansionref17_behind ends b) D := ⟨fun z => z = a, fun _ h => h, Holds.intro e rfl⟩
  dsimp only [scansionref17_behind] at hr
  change wpCode _ _ _ _ _ ⟨[(0, .cv (.val (.sl (List.map eS ends)))), (1, .cv (.val (.int .u8 (b.toNat : Int))))], h.on []⟩
  refine w_seq ?_
  refine w_region rfl (by simp (disch := (apply Apart.mk; decide)) only [go_sem, Nat.reduceAdd, Nat.reduceLT, Nat.reduceMul, Nat.reduceLeDiff, Nat.lt_irrefl, Int.reduceToNat, Int.reduceLT, Int.reduceLE]; rfl) ?_
  refine (w_n ?_)
  refine w_seq ?_
  refine w_region rfl (by simp (disch := (apply Apart.mk; decide)) only [go_sem, Nat.reduceAdd, Nat.reduceLT, Nat.reduceMul, Nat.reduceLeDiff, Nat.lt_irrefl, Int.reduceToNat, Int.reduceLT, Int.reduceLE]; rfl) ?_
  refine (w_n ?_)
  refine w_seq ?_
  refine w_seq ?_
  refine w_region rfl (by simp (disch := (apply Apart.mk; decide)) only [go_sem, Nat.reduceAdd, Nat.reduceLT, Nat.reduceMul, Nat.reduceLeDiff, Nat.lt_irrefl, Int.reduceToNat, Int.reduceLT, Int.reduceLE]; rfl) ?_
  refine (w_n ?_)
  refine w_K (D := D) (fun xX : List Str => ⟨[(5, .cv (.row 9 (List.map eS xX)))], h.on []⟩) (fun xX : List Str => scansionref17_behind.k1 xX) (fun xX s' hr ht => ?_) ?_
  · obtain ⟨out, rfl⟩ : ∃ z, z = xX := ⟨xX, rfl⟩
    dsimp only [scansionref17_behind.k1] at hr ht
    refine (w_nT ht ?_)
    refine w_seq ?_
    refine w_region rfl (by simp (disch := (apply Apart.mk; decide)) only [go_sem, Nat.reduceAdd, Nat.reduceLT, Nat.reduceMul, Nat.reduceLeDiff, Nat.lt_irrefl, Int.reduceToNat, Int.reduceLT, Int.reduceLE]; rfl) ?_
    refine (w_n ?_)
    refine w_ret ?_
    obtain rfl := hD _ hr
    exact (w_endR (.fix _ _ (.slot 4) 9 _ (by simp (disch := (apply Apart.mk; decide)) only [go_sem, Nat.reduceAdd, Nat.reduceLT, Nat.reduceMul, Nat.reduceLeDiff, Nat.lt_irrefl, Int.reduceToNat, Int.reduceLT, Int.reduceLE]; rfl) (To.cut (os' := []) (sl := [(4, .cv (.val (.sl (List.map eS out))))]) hwf (Nat.le_refl _) rfl (by simp (disch := (apply Apart.mk; decide)) only [go_sem, Nat.reduceAdd, Nat.reduceLT, Nat.reduceMul, Nat.reduceLeDiff, Nat.lt_irrefl, Int.reduceToNat, Int.reduceLT, Int.reduceLE]))) (by simp (disch := (apply Apart.mk; decide)) only [go_sem, Nat.reduceAdd, Nat.reduceLT, Nat.reduceMul, Nat.reduceLeDiff, Nat.lt_irrefl, Int.reduceToNat, Int.reduceLT, Int.reduceLE, Try.results75, results_data CT_gives75, resCell, resVal.eq_2, loadOp_sv]) ⟨rfl, on_nil hwf⟩)
  · refine w_block ?_
    refine w_Loop (fun xX : (List Str × Int) => ⟨[(0, .cv (.val (.sl (List.map eS ends)))), (1, .cv (.val (.int .u8 (b.toNat : Int)))), (5, .cv (.row 9 (List.map eS xX.1))), (6, .cv (.val (.int .i64 xX.2)))], h.on []⟩) hr (To.cut hwf (Nat.le_refl _) rfl (by simp (disch := (apply Apart.mk; decide)) only [go_sem, Nat.reduceAdd, Nat.reduceLT, Nat.reduceMul, Nat.reduceLeDiff, Nat.lt_irrefl, Int.reduceToNat, Int.reduceLT, Int.reduceLE])) (fun W1 xX hr => ?_)
    obtain ⟨out1, i⟩ := xX
    dsimp only [scansionref17_behind.b1] at hr
    refine w_seq ?_
    refine w_seq ?_
    refine w_region rfl (by simp (disch := (apply Apart.mk; decide)) only [go_sem, Nat.reduceAdd, Nat.reduceLT, Nat.reduceMul, Nat.reduceLeDiff, Nat.lt_irrefl, Int.reduceToNat, Int.reduceLT, Int.reduceLE]; rfl) ?_
    refine (w_n ?_)
    refine w_condH (by simp (disch := (apply Apart.mk; decide)) only [go_sem, Nat.reduceAdd, Nat.reduceLT, Nat.reduceMul, Nat.reduceLeDiff, Nat.lt_irrefl, Int.reduceToNat, Int.reduceLT, Int.reduceLE]) hr (fun cF1 hr => ?_) (fun cF1 hr => ?_)
    · refine w_skip ?_
      refine (w_n ?_)
      refine w_seq ?_
      refine w_K (D := (Aft W1 D)) (fun xX : List Str => ⟨[(0, .cv (.val (.sl (List.map eS ends)))), (1, .cv (.val (.int .u8 (b.toNat : Int)))), (5, .cv (.row 9 (List.map eS xX))), (6, .cv (.val (.int .i64 i)))], h.on []⟩) (fun xX : List Str => scansionref17_behind.k2 i xX) (fun xX s' hr ht => ?_) ?_
      · obtain ⟨out2, rfl⟩ : ∃ z, z = xX := ⟨xX, rfl⟩
        dsimp only [scansionref17_behind.k2] at hr ht
        refine (w_nT ht ?_)
        refine w_region rfl (by simp (disch := (apply Apart.mk; decide)) only [go_sem, Nat.reduceAdd, Nat.reduceLT, Nat.reduceMul, Nat.reduceLeDiff, Nat.lt_irrefl, Int.reduceToNat, Int.reduceLT, Int.reduceLE, cF1]; rfl) ?_
        exact (w_k ⟨(out2, (IntKind.i64.wrap (i + (1 : Int)))), hr, (To.cut hwf (Nat.le_refl _) rfl (by simp (disch := (apply Apart.mk; decide)) only [go_sem, Nat.reduceAdd, Nat.reduceLT, Nat.reduceMul, Nat.reduceLeDiff, Nat.lt_irrefl, Int.reduceToNat, Int.reduceLT, Int.reduceLE, cF1]))⟩)
      · refine w_block ?_
        obtain ⟨v, vF8, hr⟩ := hr.bind
        refine w_joinR (sj := ⟨[(0, .cv (.val (.sl (List.map eS ends)))), (1, .cv (.val (.int .u8 (b.toNat : Int)))), (5, .cv (.row 9 (List.map eS out1))), (6, .cv (.val (.int .i64 i))), (27, .cv (.val (.bool v)))], h.on []⟩) (w_ops rfl ?_) ?_
        · have hr := Holds.intro (D := fun z => z = v) vF8 rfl
          obtain ⟨s, nF2, eF3, gF4, hr⟩ := hr.idx
          refine w_upto 7 rfl (by simp (disch := (apply Apart.mk; decide)) only [go_sem, Nat.reduceAdd, Nat.reduceLT, Nat.reduceMul, Nat.reduceLeDiff, Nat.lt_irrefl, Int.reduceToNat, Int.reduceLT, Int.reduceLE, nF2, eF3, gF4]; rfl) ?_
          rcases hr.ite with ⟨cF5, hr⟩ | ⟨cF5, hr⟩
          · obtain ⟨c, eF6, gF7, hr⟩ := hr.idxK
            refine w_ops_end (by simp (disch := (apply Apart.mk; decide)) only [go_sem, Nat.reduceAdd, Nat.reduceLT, Nat.reduceMul, Nat.reduceLeDiff, Nat.lt_irrefl, Int.reduceToNat, Int.reduceLT, Int.reduceLE, nF2, eF3, gF4, cF5, eF6, gF7]; rfl) ?_
            obtain rfl : _ = v := hr
            exact w_k (To.cut hwf (Nat.le_refl _) rfl (by simp (disch := (apply Apart.mk; decide)) only [go_sem, Nat.reduceAdd, Nat.reduceLT, Nat.reduceMul, Nat.reduceLeDiff, Nat.lt_irrefl, Int.reduceToNat, Int.reduceLT, Int.reduceLE, cF1, cF5]))
          · refine w_ops_end (by simp (disch := (apply Apart.mk; decide)) only [go_sem, Nat.reduceAdd, Nat.reduceLT, Nat.reduceMul, Nat.reduceLeDiff, Nat.lt_irrefl, Int.reduceToNat, Int.reduceLT, Int.reduceLE, nF2, eF3, gF4, cF5]; rfl) ?_
            obtain rfl : _ = v := hr
            exact w_k (To.cut hwf (Nat.le_refl _) rfl (by simp (disch := (apply Apart.mk; decide)) only [go_sem, Nat.reduceAdd, Nat.reduceLT, Nat.reduceMul, Nat.reduceLeDiff, Nat.lt_irrefl, Int.reduceToNat, Int.reduceLT, Int.reduceLE, cF1, cF5]))
        refine w_condH (by simp (disch := (apply Apart.mk; decide)) only [go_sem, Nat.reduceAdd, Nat.reduceLT, Nat.reduceMul, Nat.reduceLeDiff, Nat.lt_irrefl, Int.reduceToNat, Int.reduceLT, Int.reduceLE, cF1]) hr (fun cF9 hr => ?_) (fun cF9 hr => ?_)
        · obtain ⟨s1, nF10, eF11, gF12, hr⟩ := hr.idx
          obtain ⟨nF13, nF14, hr⟩ := hr.cutL
          obtain ⟨nF15, hr⟩ := hr.room
          refine w_region rfl (by simp (disch := (apply Apart.mk; decide)) only [go_sem, Nat.reduceAdd, Nat.reduceLT, Nat.reduceMul, Nat.reduceLeDiff, Nat.lt_irrefl, Int.reduceToNat, Int.reduceLT, Int.reduceLE, nF10, eF11, gF12, nF13, nF14, nF15, cF1, cF9]; rfl) ?_
          exact (w_bn (w_k ⟨(out1 ++ ([(List.drop (Int.toNat (1 : Int)) s1)])), hr, (To.cut hwf (Nat.le_refl _) rfl (by simp (disch := (apply Apart.mk; decide)) only [go_sem, Nat.reduceAdd, Nat.reduceLT, Nat.reduceMul, Nat.reduceLeDiff, Nat.lt_irrefl, Int.reduceToNat, Int.reduceLT, Int.reduceLE, cF1, cF9]))⟩))
        · refine w_skip ?_
          exact (w_bn (w_k ⟨out1, hr, (To.cut hwf (Nat.le_refl _) rfl (by simp (disch := (apply Apart.mk; decide)) only [go_sem, Nat.reduceAdd, Nat.reduceLT, Nat.reduceMul, Nat.reduceLeDiff, Nat.lt_irrefl, Int.reduceToNat, Int.reduceLT, Int.reduceLE, cF1, cF9]))⟩))
    · refine w_exit ?_
      exact (w_te (w_te (w_bx (w_k ⟨out1, (hr).map, (To.cut hwf (Nat.le_refl _) rfl (by simp (disch := (apply Apart.mk; decide)) only [go_sem, Nat.reduceAdd, Nat.reduceLT, Nat.reduceMul, Nat.reduceLeDiff, Nat.lt_irrefl, Int.reduceToNat, Int.reduceLT, Int.reduceLE, cF1]))⟩))))
end Go.Val

/- part GW51 -/
/- (*scansion/scansionref17.maker).state runs as it is read off. -/
namespace Go.Val
set_option linter.unusedVariables false
set_option linter.unusedSimpArgs false
set_option maxRecDepth 20000
open Go.Proofs
theorem scansionref17_maker_state_runs_r : ∀ (fu : Nat) (m : Tscansionref17_maker) (ends : List Str) (l0 : Nat) {h : Heap} (ha0 : h.at_ l0 = some (.cells [.row 4 (List.map eB m.g.Final), .row 35 (List.map (eL eEdge) m.g.Edges), .row 9 (List.map eS m.ends)])) {a : (Int × Tscansionref17_maker)} (e : scansionref17_maker_state.r fu m ends = some a),
    Runs CT 51 [.cv (.val (.ptr (some (l0, 0)))), .cv (.val (.sl (List.map eS ends)))] h fun o h' => o = [.cv (.val (.int .i64 a.1))] ∧ h' = (h.upd l0 (.cells [.row 4 (List.map eB a.2.g.Final), .row 35 (List.map (eL eEdge) a.2.g.Edges), .row 9 (List.map eS a.2.ends)])) := by
  intro fu
  induction fu with
  | zero => intros; rename_i e; simp [scansionref17_maker_state.r] at e
  | succ fu ih =>
    intro m ends l0 h ha0 a e
    refine Runs.start Try.f51 _ Try.func51 rfl (by rw [Try.ntmps51]; simp) (by rfl) (by rfl) (fun hwf hu => ?_)
    have hl0 := (hwf _ _ ha0).1
    obtain ⟨D, hD, hr⟩ : ∃ D : (Int × Tscansionref17_maker) → Prop, (∀ z, D z → z = a) ∧ Holds (scansionref17_maker_state.r (fu + 1) m ends) D := ⟨fun z => z = a, fun _ h => h, Holds.intro e rfl⟩
    dsimp only [scansionref17_maker_state.r] at hr
    change wpCode _ _ _ _ _ ⟨[(0, .cv (.val (.ptr (some (l0, 0))))), (1, .cv (.val (.sl (List.map eS ends))))], h.on []⟩
    refine w_seq ?_
    refine w_region rfl (by simp (disch := (apply Apart.mk; decide)) only [go_sem, Nat.reduceAdd, Nat.reduceLT, Nat.reduceMul, Nat.reduceLeDiff, Nat.lt_irrefl, Int.reduceToNat, Int.reduceLT, Int.reduceLE, ha0, on_atB hl0, lt_add hl0, lt_at hl0, on_updB hl0, on_atU hl0, on_updU hl0, upd_same ha0]; rfl) ?_
    refine (w_n ?_)
    refine w_seq ?_
    refine w_ops rfl ?_
    refine w_upto 1 rfl (by simp (disch := (apply Apart.mk; decide)) only [go_sem, Nat.reduceAdd, Nat.reduceLT, Nat.reduceMul, Nat.reduceLeDiff, Nat.lt_irrefl, Int.reduceToNat, Int.reduceLT, Int.reduceLE, ha0, on_atB hl0, lt_add hl0, lt_at hl0, on_updB hl0, on_atU hl0, on_updU hl0, upd_same ha0]; rfl) ?_
    obtain ⟨r, eF1, hr⟩ := hr.bind
    refine w_call' (out := ?o_eF1) (hp := ?p_eF1) rfl (by simp (disch := (apply Apart.mk; decide)) only [go_sem, Nat.reduceAdd, Nat.reduceLT, Nat.reduceMul, Nat.reduceLeDiff, Nat.lt_irrefl, Int.reduceToNat, Int.reduceLT, Int.reduceLE, ha0, on_atB hl0, lt_add hl0, lt_at hl0, on_updB hl0, on_atU hl0, on_updU hl0, upd_same ha0, Option.getD_some]; rfl) (by simp (disch := (apply Apart.mk; decide)) only [go_sem, Nat.reduceAdd, Nat.reduceLT, Nat.reduceMul, Nat.reduceLeDiff, Nat.lt_irrefl, Int.reduceToNat, Int.reduceLT, Int.reduceLE, ha0, on_atB hl0, lt_add hl0, lt_at hl0, on_updB hl0, on_atU hl0, on_updU hl0, upd_same ha0, Option.getD_some]; rfl) (by simp (disch := (apply Apart.mk; decide)) only [go_sem, Nat.reduceAdd, Nat.reduceLT, Nat.reduceMul, Nat.reduceLeDiff, Nat.lt_irrefl, Int.reduceToNat, Int.reduceLT, Int.reduceLE, ha0, on_atB hl0, lt_add hl0, lt_at hl0, on_updB hl0, on_atU hl0, on_updU hl0, upd_same ha0, Option.getD_some]; rfl) ?c_eF1 ?d_eF1 ?_
    case c_eF1 => exact scansionref17_one_runs ends eF1
    case d_eF1 => rfl
    refine w_ops_end (by simp (disch := (apply Apart.mk; decide)) only [go_sem, Nat.reduceAdd, Nat.reduceLT, Nat.reduceMul, Nat.reduceLeDiff, Nat.lt_irrefl, Int.reduceToNat, Int.reduceLT, Int.reduceLE, ha0, on_atB hl0, lt_add hl0, lt_at hl0, on_updB hl0, on_atU hl0, on_updU hl0, upd_same ha0]; rfl) ?_
    refine (w_n ?_)
    refine w_seq ?_
    refine w_seq ?_
    refine w_region rfl (by simp (disch := (apply Apart.mk; decide)) only [go_sem, Nat.reduceAdd, Nat.reduceLT, Nat.reduceMul, Nat.reduceLeDiff, Nat.lt_irrefl, Int.reduceToNat, Int.reduceLT, Int.reduceLE, ha0, on_atB hl0, lt_add hl0, lt_at hl0, on_updB hl0, on_atU hl0, on_updU hl0, upd_same ha0]; rfl) ?_
    refine (w_n ?_)
    refine w_K (D := D) (fun xX : Unit => ⟨[(0, .cv (.val (.ptr (some (l0, 0))))), (1, .cv (.val (.sl (List.map eS ends)))), (5, .cv (.val (.str (bs r))))], h.on []⟩) (fun xX : Unit => scansionref17_maker_state.k1 (scansionref17_maker_state.r fu) m ends r) (fun xX s' hr ht => ?_) ?_
    · dsimp only [scansionref17_maker_state.k1] at hr ht
      refine (w_nT ht ?_)
      refine w_seq ?_
      refine w_region rfl (by simp (disch := (apply Apart.mk; decide)) only [go_sem, Nat.reduceAdd, Nat.reduceLT, Nat.reduceMul, Nat.reduceLeDiff, Nat.lt_irrefl, Int.reduceToNat, Int.reduceLT, Int.reduceLE, ha0, on_atB hl0, lt_add hl0, lt_at hl0, on_updB hl0, on_atU hl0, on_updU hl0, upd_same ha0]; rfl) ?_
      refine (w_n ?_)
      refine w_seq ?_
      refine w_seq ?_
      refine w_region rfl (by simp (disch := (apply Apart.mk; decide)) only [go_sem, Nat.reduceAdd, Nat.reduceLT, Nat.reduceMul, Nat.reduceLeDiff, Nat.lt_irrefl, Int.reduceToNat, Int.reduceLT, Int.reduceLE, ha0, on_atB hl0, lt_add hl0, lt_at hl0, on_updB hl0, on_atU hl0, on_updU hl0, upd_same ha0]; rfl) ?_
      refine (w_n ?_)
      refine w_K (D := D) (fun xX : (List TEdge × List Bool × List (List TEdge) × List Str) => ⟨[(0, .cv (.val (.ptr (some (l0, 0))))), (1, .cv (.val (.sl (List.map eS ends)))), (5, .cv (.val (.str (bs r)))), (7, .cv (.row 37 (List.map eEdge xX.1)))], (h.upd l0 (.cells [.row 4 (List.map eB xX.2.1), .row 35 (List.map (eL eEdge) xX.2.2.1), .row 9 (List.map eS xX.2.2.2)])).on []⟩) (fun xX : (List TEdge × List Bool × List (List TEdge) × List Str) => scansionref17_maker_state.k2 ends r xX.1 xX.2.1 xX.2.2.1 xX.2.2.2) (fun xX s' hr ht => ?_) ?_
      · obtain ⟨edges, Final, Edges, ends1⟩ := xX
        dsimp only [scansionref17_maker_state.k2] at hr ht
        refine (w_nT ht ?_)
        refine w_seq ?_
        obtain ⟨nF2, hr⟩ := hr.room
        refine w_region rfl (by simp (disch := (apply Apart.mk; decide)) only [go_sem, Nat.reduceAdd, Nat.reduceLT, Nat.reduceMul, Nat.reduceLeDiff, Nat.lt_irrefl, Int.reduceToNat, Int.reduceLT, Int.reduceLE, ha0, on_atB hl0, lt_add hl0, lt_at hl0, on_updB hl0, on_atU hl0, on_updU hl0, upd_same ha0, nF2]; rfl) ?_
        refine (w_n ?_)
        obtain ⟨Final1, vF8, hr⟩ := hr.bind
        refine w_joinR (sj := ⟨[(0, .cv (.val (.ptr (some (l0, 0))))), (7, .cv (.row 37 (List.map eEdge edges)))], (h.upd l0 (.cells [.row 4 (List.map eB Final1), .row 35 (List.map (eL eEdge) Edges), .row 9 (List.map eS (ends1 ++ ([r])))])).on []⟩) (w_drawn [0, 1, 2, 3, 4, 5, 6, 7, 8, 9, 10, 11, 12, 13, 14, 15, 16, 17, 18, 19, 20] (by rfl) ?_) ?_
        · have hr := Holds.intro (D := fun z => z = Final1) vF8 rfl
          refine p_run (l := [0, 1, 2, 3, 4, 5, 6, 7, 8, 9]) (pend' := [9, 8, 7, 6, 5, 4, 3, 2, 1, 0]) (by simp (disch := (apply Apart.mk; decide)) only [go_sem, Nat.reduceAdd, Nat.reduceLT, Nat.reduceMul, Nat.reduceLeDiff, Nat.lt_irrefl, Int.reduceToNat, Int.reduceLT, Int.reduceLE, ha0, on_atB hl0, lt_add hl0, lt_at hl0, on_updB hl0, on_atU hl0, on_updU hl0, upd_same ha0]; rfl) rfl ?_
          rcases hr.ite with ⟨cF3, hr⟩ | ⟨cF3, hr⟩
          · obtain ⟨s, eF4, gF5, hr⟩ := hr.idxK
            obtain ⟨nF6, hr⟩ := hr.room
            refine p_run (l := [10, 11, 12, 13, 14, 15]) (pend' := [15, 14, 13, 12, 11, 10, 9, 8, 7, 6, 5, 4, 3, 2, 1, 0]) (by simp (disch := (apply Apart.mk; decide)) only [go_sem, Nat.reduceAdd, Nat.reduceLT, Nat.reduceMul, Nat.reduceLeDiff, Nat.lt_irrefl, Int.reduceToNat, Int.reduceLT, Int.reduceLE, ha0, on_atB hl0, lt_add hl0, lt_at hl0, on_updB hl0, on_atU hl0, on_updU hl0, upd_same ha0, cF3, eF4, gF5, nF6]; rfl) rfl ?_
            refine p_op (pend' := [0]) rfl (by simp (disch := (apply Apart.mk; decide)) only [go_sem, Nat.reduceAdd, Nat.reduceLT, Nat.reduceMul, Nat.reduceLeDiff, Nat.lt_irrefl, Int.reduceToNat, Int.reduceLT, Int.reduceLE, ha0, on_atB hl0, lt_add hl0, lt_at hl0, on_updB hl0, on_atU hl0, on_updU hl0, upd_same ha0, cF3, eF4, gF5, nF6]) (by simp (disch := (apply Apart.mk; decide)) only [go_sem, Nat.reduceAdd, Nat.reduceLT, Nat.reduceMul, Nat.reduceLeDiff, Nat.lt_irrefl, Int.reduceToNat, Int.reduceLT, Int.reduceLE, ha0, on_atB hl0, lt_add hl0, lt_at hl0, on_updB hl0, on_atU hl0, on_updU hl0, upd_same ha0, cF3, eF4, gF5, nF6]; rfl) (by rfl) ?_
            refine p_run (l := [17, 18, 19]) (pend' := [19, 18, 17, 0]) (by simp (disch := (apply Apart.mk; decide)) only [go_sem, Nat.reduceAdd, Nat.reduceLT, Nat.reduceMul, Nat.reduceLeDiff, Nat.lt_irrefl, Int.reduceToNat, Int.reduceLT, Int.reduceLE, ha0, on_atB hl0, lt_add hl0, lt_at hl0, on_updB hl0, on_atU hl0, on_updU hl0, upd_same ha0, cF3, eF4, gF5, nF6]; rfl) rfl ?_
            refine p_op (pend' := []) rfl (by simp (disch := (apply Apart.mk; decide)) only [go_sem, Nat.reduceAdd, Nat.reduceLT, Nat.reduceMul, Nat.reduceLeDiff, Nat.lt_irrefl, Int.reduceToNat, Int.reduceLT, Int.reduceLE, ha0, on_atB hl0, lt_add hl0, lt_at hl0, on_updB hl0, on_atU hl0, on_updU hl0, upd_same ha0, cF3, eF4, gF5, nF6]) (by simp (disch := (apply Apart.mk; decide)) only [go_sem, Nat.reduceAdd, Nat.reduceLT, Nat.reduceMul, Nat.reduceLeDiff, Nat.lt_irrefl, Int.reduceToNat, Int.reduceLT, Int.reduceLE, ha0, on_atB hl0, lt_add hl0, lt_at hl0, on_updB hl0, on_atU hl0, on_updU hl0, upd_same ha0, cF3, eF4, gF5, nF6]; rfl) (by rfl) ?_
            refine p_end (by simp (disch := (apply Apart.mk; decide)) only [go_sem, Nat.reduceAdd, Nat.reduceLT, Nat.reduceMul, Nat.reduceLeDiff, Nat.lt_irrefl, Int.reduceToNat, Int.reduceLT, Int.reduceLE, ha0, on_atB hl0, lt_add hl0, lt_at hl0, on_updB hl0, on_atU hl0, on_updU hl0, upd_same ha0, cF3, eF4, gF5, nF6]) ?_
            obtain rfl : _ = Final1 := hr
            exact w_k (To.cut (h := (h.upd l0 (.cells [.row 4 (List.map eB (Final ++ ([(s == ([] : Str))]))), .row 35 (List.map (eL eEdge) Edges), .row 9 (List.map eS (ends1 ++ ([r])))]))) (WF.upd hwf hl0 (by simp (disch := (apply Apart.mk; decide)) only [go_sem, Nat.reduceAdd, Nat.reduceLT, Nat.reduceMul, Nat.reduceLeDiff, Nat.lt_irrefl, Int.reduceToNat, Int.reduceLT, Int.reduceLE, ha0, on_atB hl0, lt_add hl0, lt_at hl0, on_updB hl0, on_atU hl0, on_updU hl0, upd_same ha0])) (Nat.le_refl _) (by first | rfl | (simp (disch := (apply Apart.mk; decide)) only [go_sem, Nat.reduceAdd, Nat.reduceLT, Nat.reduceMul, Nat.reduceLeDiff, Nat.lt_irrefl, Int.reduceToNat, Int.reduceLT, Int.reduceLE, ha0, on_atB hl0, lt_add hl0, lt_at hl0, on_updB hl0, on_atU hl0, on_updU hl0, upd_same ha0, cF3]; rfl)) (by simp (disch := (apply Apart.mk; decide)) only [go_sem, Nat.reduceAdd, Nat.reduceLT, Nat.reduceMul, Nat.reduceLeDiff, Nat.lt_irrefl, Int.reduceToNat, Int.reduceLT, Int.reduceLE, ha0, on_atB hl0, lt_add hl0, lt_at hl0, on_updB hl0, on_atU hl0, on_updU hl0, upd_same ha0, cF3]))
          · obtain ⟨nF7, hr⟩ := hr.room
            refine p_run (l := [10, 11, 12, 13, 14, 15]) (pend' := [15, 14, 13, 12, 11, 10, 9, 8, 7, 6, 5, 4, 3, 2, 1, 0]) (by simp (disch := (apply Apart.mk; decide)) only [go_sem, Nat.reduceAdd, Nat.reduceLT, Nat.reduceMul, Nat.reduceLeDiff, Nat.lt_irrefl, Int.reduceToNat, Int.reduceLT, Int.reduceLE, ha0, on_atB hl0, lt_add hl0, lt_at hl0, on_updB hl0, on_atU hl0, on_updU hl0, upd_same ha0, cF3, nF7]; rfl) rfl ?_
            refine p_op (pend' := [0]) rfl (by simp (disch := (apply Apart.mk; decide)) only [go_sem, Nat.reduceAdd, Nat.reduceLT, Nat.reduceMul, Nat.reduceLeDiff, Nat.lt_irrefl, Int.reduceToNat, Int.reduceLT, Int.reduceLE, ha0, on_atB hl0, lt_add hl0, lt_at hl0, on_updB hl0, on_atU hl0, on_updU hl0, upd_same ha0, cF3, nF7]) (by simp (disch := (apply Apart.mk; decide)) only [go_sem, Nat.reduceAdd, Nat.reduceLT, Nat.reduceMul, Nat.reduceLeDiff, Nat.lt_irrefl, Int.reduceToNat, Int.reduceLT, Int.reduceLE, ha0, on_atB hl0, lt_add hl0, lt_at hl0, on_updB hl0, on_atU hl0, on_updU hl0, upd_same ha0, cF3, nF7]; rfl) (by rfl) ?_
            refine p_run (l := [17, 18, 19]) (pend' := [19, 18, 17, 0]) (by simp (disch := (apply Apart.mk; decide)) only [go_sem, Nat.reduceAdd, Nat.reduceLT, Nat.reduceMul, Nat.reduceLeDiff, Nat.lt_irrefl, Int.reduceToNat, Int.reduceLT, Int.reduceLE, ha0, on_atB hl0, lt_add hl0, lt_at hl0, on_updB hl0, on_atU hl0, on_updU hl0, upd_same ha0, cF3, nF7]; rfl) rfl ?_
            refine p_op (pend' := []) rfl (by simp (disch := (apply Apart.mk; decide)) only [go_sem, Nat.reduceAdd, Nat.reduceLT, Nat.reduceMul, Nat.reduceLeDiff, Nat.lt_irrefl, Int.reduceToNat, Int.reduceLT, Int.reduceLE, ha0, on_atB hl0, lt_add hl0, lt_at hl0, on_updB hl0, on_atU hl0, on_updU hl0, upd_same ha0, cF3, nF7]) (by simp (disch := (apply Apart.mk; decide)) only [go_sem, Nat.reduceAdd, Nat.reduceLT, Nat.reduceMul, Nat.reduceLeDiff, Nat.lt_irrefl, Int.reduceToNat, Int.reduceLT, Int.reduceLE, ha0, on_atB hl0, lt_add hl0, lt_at hl0, on_updB hl0, on_atU hl0, on_updU hl0, upd_same ha0, cF3, nF7]; rfl) (by rfl) ?_
            refine p_end (by simp (disch := (apply Apart.mk; decide)) only [go_sem, Nat.reduceAdd, Nat.reduceLT, Nat.reduceMul, Nat.reduceLeDiff, Nat.lt_irrefl, Int.reduceToNat, Int.reduceLT, Int.reduceLE, ha0, on_atB hl0, lt_add hl0, lt_at hl0, on_updB hl0, on_atU hl0, on_updU hl0, upd_same ha0, cF3, nF7]) ?_
            obtain rfl : _ = Final1 := hr
            exact w_k (To.cut (h := (h.upd l0 (.cells [.row 4 (List.map eB (Final ++ ([false]))), .row 35 (List.map (eL eEdge) Edges), .row 9 (List.map eS (ends1 ++ ([r])))]))) (WF.upd hwf hl0 (by simp (disch := (apply Apart.mk; decide)) only [go_sem, Nat.reduceAdd, Nat.reduceLT, Nat.reduceMul, Nat.reduceLeDiff, Nat.lt_irrefl, Int.reduceToNat, Int.reduceLT, Int.reduceLE, ha0, on_atB hl0, lt_add hl0, lt_at hl0, on_updB hl0, on_atU hl0, on_updU hl0, upd_same ha0])) (Nat.le_refl _) (by first | rfl | (simp (disch := (apply Apart.mk; decide)) only [go_sem, Nat.reduceAdd, Nat.reduceLT, Nat.reduceMul, Nat.reduceLeDiff, Nat.lt_irrefl, Int.reduceToNat, Int.reduceLT, Int.reduceLE, ha0, on_atB hl0, lt_add hl0, lt_at hl0, on_updB hl0, on_atU hl0, on_updU hl0, upd_same ha0, cF3]; rfl)) (by simp (disch := (apply Apart.mk; decide)) only [go_sem, Nat.reduceAdd, Nat.reduceLT, Nat.reduceMul, Nat.reduceLeDiff, Nat.lt_irrefl, Int.reduceToNat, Int.reduceLT, Int.reduceLE, ha0, on_atB hl0, lt_add hl0, lt_at hl0, on_updB hl0, on_atU hl0, on_updU hl0, upd_same ha0, cF3]))
        refine w_seq ?_
        obtain ⟨nF9, hr⟩ := hr.room
        refine w_region rfl (by simp (disch := (apply Apart.mk; decide)) only [go_sem, Nat.reduceAdd, Nat.reduceLT, Nat.reduceMul, Nat.reduceLeDiff, Nat.lt_irrefl, Int.reduceToNat, Int.reduceLT, Int.reduceLE, ha0, on_atB hl0, lt_add hl0, lt_at hl0, on_updB hl0, on_atU hl0, on_updU hl0, upd_same ha0, nF9]; rfl) ?_
        refine (w_n ?_)
        refine w_seq ?_
        refine w_region rfl (by simp (disch := (apply Apart.mk; decide)) only [go_sem, Nat.reduceAdd, Nat.reduceLT, Nat.reduceMul, Nat.reduceLeDiff, Nat.lt_irrefl, Int.reduceToNat, Int.reduceLT, Int.reduceLE, ha0, on_atB hl0, lt_add hl0, lt_at hl0, on_updB hl0, on_atU hl0, on_updU hl0, upd_same ha0]; rfl) ?_
        refine (w_n ?_)
        refine w_ret ?_
        obtain rfl := hD _ hr
        exact (w_endR (To.cut (os' := []) (sl := [(4, .cv (.val (.int .i64 (IntKind.i64.wrap (((ends1 ++ ([r])).length : Int) - (1 : Int))))))]) (h := (h.upd l0 (.cells [.row 4 (List.map eB Final1), .row 35 (List.map (eL eEdge) (Edges ++ ([edges]))), .row 9 (List.map eS (ends1 ++ ([r])))]))) (WF.upd hwf hl0 (by simp (disch := (apply Apart.mk; decide)) only [go_sem, Nat.reduceAdd, Nat.reduceLT, Nat.reduceMul, Nat.reduceLeDiff, Nat.lt_irrefl, Int.reduceToNat, Int.reduceLT, Int.reduceLE, ha0, on_atB hl0, lt_add hl0, lt_at hl0, on_updB hl0, on_atU hl0, on_updU hl0, upd_same ha0])) (Nat.le_refl _) (by first | rfl | (simp (disch := (apply Apart.mk; decide)) only [go_sem, Nat.reduceAdd, Nat.reduceLT, Nat.reduceMul, Nat.reduceLeDiff, Nat.lt_irrefl, Int.reduceToNat, Int.reduceLT, Int.reduceLE, ha0, on_atB hl0, lt_add hl0, lt_at hl0, on_updB hl0, on_atU hl0, on_updU hl0, upd_same ha0]; rfl)) (by simp (disch := (apply Apart.mk; decide)) only [go_sem, Nat.reduceAdd, Nat.reduceLT, Nat.reduceMul, Nat.reduceLeDiff, Nat.lt_irrefl, Int.reduceToNat, Int.reduceLT, Int.reduceLE, ha0, on_atB hl0, lt_add hl0, lt_at hl0, on_updB hl0, on_atU hl0, on_updU hl0, upd_same ha0])) (by simp (disch := (apply Apart.mk; decide)) only [go_sem, Nat.reduceAdd, Nat.reduceLT, Nat.reduceMul, Nat.reduceLeDiff, Nat.lt_irrefl, Int.reduceToNat, Int.reduceLT, Int.reduceLE, ha0, on_atB hl0, lt_add hl0, lt_at hl0, on_updB hl0, on_atU hl0, on_updU hl0, upd_same ha0, Try.results51, results_data CT_gives51, resCell, resVal.eq_2, loadOp_sv]) ⟨rfl, on_nil (h := (h.upd l0 (.cells [.row 4 (List.map eB Final1), .row 35 (List.map (eL eEdge) (Edges ++ ([edges]))), .row 9 (List.map eS (ends1 ++ ([r])))]))) (WF.upd hwf hl0 (by simp (disch := (apply Apart.mk; decide)) only [go_sem, Nat.reduceAdd, Nat.reduceLT, Nat.reduceMul, Nat.reduceLeDiff, Nat.lt_irrefl, Int.reduceToNat, Int.reduceLT, Int.reduceLE, ha0, on_atB hl0, lt_add hl0, lt_at hl0, on_updB hl0, on_atU hl0, on_updU hl0, upd_same ha0]))⟩)
      · refine w_block ?_
        refine w_Loop (fun xX : (List TEdge × Int × List Bool × List (List TEdge) × List Str) => ⟨[(0, .cv (.val (.ptr (some (l0, 0))))), (1, .cv (.val (.sl (List.map eS ends)))), (5, .cv (.val (.str (bs r)))), (7, .cv (.row 37 (List.map eEdge xX.1))), (8, .cv (.val (.int .i64 xX.2.1)))], (h.upd l0 (.cells [.row 4 (List.map eB xX.2.2.1), .row 35 (List.map (eL eEdge) xX.2.2.2.1), .row 9 (List.map eS xX.2.2.2.2)])).on []⟩) hr (To.cut (h := (h.upd l0 (.cells [.row 4 (List.map eB m.g.Final), .row 35 (List.map (eL eEdge) m.g.Edges), .row 9 (List.map eS m.ends)]))) (WF.upd hwf hl0 (by simp (disch := (apply Apart.mk; decide)) only [go_sem, Nat.reduceAdd, Nat.reduceLT, Nat.reduceMul, Nat.reduceLeDiff, Nat.lt_irrefl, Int.reduceToNat, Int.reduceLT, Int.reduceLE, ha0, on_atB hl0, lt_add hl0, lt_at hl0, on_updB hl0, on_atU hl0, on_updU hl0, upd_same ha0])) (Nat.le_refl _) (by first | rfl | (simp (disch := (apply Apart.mk; decide)) only [go_sem, Nat.reduceAdd, Nat.reduceLT, Nat.reduceMul, Nat.reduceLeDiff, Nat.lt_irrefl, Int.reduceToNat, Int.reduceLT, Int.reduceLE, ha0, on_atB hl0, lt_add hl0, lt_at hl0, on_updB hl0, on_atU hl0, on_updU hl0, upd_same ha0]; rfl)) (by simp (disch := (apply Apart.mk; decide)) only [go_sem, Nat.reduceAdd, Nat.reduceLT, Nat.reduceMul, Nat.reduceLeDiff, Nat.lt_irrefl, Int.reduceToNat, Int.reduceLT, Int.reduceLE, ha0, on_atB hl0, lt_add hl0, lt_at hl0, on_updB hl0, on_atU hl0, on_updU hl0, upd_same ha0])) (fun W1 xX hr => ?_)
        obtain ⟨edges1, c, Final2, Edges1, ends2⟩ := xX
        dsimp only [scansionref17_maker_state.b1] at hr
        refine w_seq ?_
        refine w_seq ?_
        refine w_region rfl (by simp (disch := (apply Apart.mk; decide)) only [go_sem, Nat.reduceAdd, Nat.reduceLT, Nat.reduceMul, Nat.reduceLeDiff, Nat.lt_irrefl, Int.reduceToNat, Int.reduceLT, Int.reduceLE, ha0, on_atB hl0, lt_add hl0, lt_at hl0, on_updB hl0, on_atU hl0, on_updU hl0, upd_same ha0]; rfl) ?_
        refine (w_n ?_)
        refine w_condH (by simp (disch := (apply Apart.mk; decide)) only [go_sem, Nat.reduceAdd, Nat.reduceLT, Nat.reduceMul, Nat.reduceLeDiff, Nat.lt_irrefl, Int.reduceToNat, Int.reduceLT, Int.reduceLE, ha0, on_atB hl0, lt_add hl0, lt_at hl0, on_updB hl0, on_atU hl0, on_updU hl0, upd_same ha0]) hr (fun cF10 hr => ?_) (fun cF10 hr => ?_)
        · refine w_skip ?_
          refine (w_n ?_)
          refine w_seq ?_
          refine w_K (D := (Aft W1 D)) (fun xX : (List TEdge × List Bool × List (List TEdge) × List Str) => ⟨[(0, .cv (.val (.ptr (some (l0, 0))))), (1, .cv (.val (.sl (List.map eS ends)))), (5, .cv (.val (.str (bs r)))), (7, .cv (.row 37 (List.map eEdge xX.1))), (8, .cv (.val (.int .i64 c)))], (h.upd l0 (.cells [.row 4 (List.map eB xX.2.1), .row 35 (List.map (eL eEdge) xX.2.2.1), .row 9 (List.map eS xX.2.2.2)])).on []⟩) (fun xX : (List TEdge × List Bool × List (List TEdge) × List Str) => scansionref17_maker_state.k3 c xX.1 xX.2.1 xX.2.2.1 xX.2.2.2) (fun xX s' hr ht => ?_) ?_
          · obtain ⟨edges2, Final3, Edges2, ends3⟩ := xX
            dsimp only [scansionref17_maker_state.k3] at hr ht
            refine (w_nT ht ?_)
            refine w_region rfl (by simp (disch := (apply Apart.mk; decide)) only [go_sem, Nat.reduceAdd, Nat.reduceLT, Nat.reduceMul, Nat.reduceLeDiff, Nat.lt_irrefl, Int.reduceToNat, Int.reduceLT, Int.reduceLE, ha0, on_atB hl0, lt_add hl0, lt_at hl0, on_updB hl0, on_atU hl0, on_updU hl0, upd_same ha0, cF10]; rfl) ?_
            exact (w_k ⟨(edges2, (IntKind.i64.wrap (c + (1 : Int))), Final3, Edges2, ends3), hr, (To.cut (h := (h.upd l0 (.cells [.row 4 (List.map eB Final3), .row 35 (List.map (eL eEdge) Edges2), .row 9 (List.map eS ends3)]))) (WF.upd hwf hl0 (by simp (disch := (apply Apart.mk; decide)) only [go_sem, Nat.reduceAdd, Nat.reduceLT, Nat.reduceMul, Nat.reduceLeDiff, Nat.lt_irrefl, Int.reduceToNat, Int.reduceLT, Int.reduceLE, ha0, on_atB hl0, lt_add hl0, lt_at hl0, on_updB hl0, on_atU hl0, on_updU hl0, upd_same ha0])) (Nat.le_refl _) (by first | rfl | (simp (disch := (apply Apart.mk; decide)) only [go_sem, Nat.reduceAdd, Nat.reduceLT, Nat.reduceMul, Nat.reduceLeDiff, Nat.lt_irrefl, Int.reduceToNat, Int.reduceLT, Int.reduceLE, ha0, on_atB hl0, lt_add hl0, lt_at hl0, on_updB hl0, on_atU hl0, on_updU hl0, upd_same ha0, cF10]; rfl)) (by simp (disch := (apply Apart.mk; decide)) only [go_sem, Nat.reduceAdd, Nat.reduceLT, Nat.reduceMul, Nat.reduceLeDiff, Nat.lt_irrefl, Int.reduceToNat, Int.reduceLT, Int.reduceLE, ha0, on_atB hl0, lt_add hl0, lt_at hl0, on_updB hl0, on_atU hl0, on_updU hl0, upd_same ha0, cF10]))⟩)
          · refine w_block ?_
            refine w_seq ?_
            refine w_ops rfl ?_
            refine w_upto 3 rfl (by simp (disch := (apply Apart.mk; decide)) only [go_sem, Nat.reduceAdd, Nat.reduceLT, Nat.reduceMul, Nat.reduceLeDiff, Nat.lt_irrefl, Int.reduceToNat, Int.reduceLT, Int.reduceLE, ha0, on_atB hl0, lt_add hl0, lt_at hl0, on_updB hl0, on_atU hl0, on_updU hl0, upd_same ha0]; rfl) ?_
            obtain ⟨r1, eF11, hr⟩ := hr.bind
            refine w_call' (out := ?o_eF11) (hp := ?p_eF11) rfl (by simp (disch := (apply Apart.mk; decide)) only [go_sem, Nat.reduceAdd, Nat.reduceLT, Nat.reduceMul, Nat.reduceLeDiff, Nat.lt_irrefl, Int.reduceToNat, Int.reduceLT, Int.reduceLE, ha0, on_atB hl0, lt_add hl0, lt_at hl0, on_updB hl0, on_atU hl0, on_updU hl0, upd_same ha0, Option.getD_some]; rfl) (by simp (disch := (apply Apart.mk; decide)) only [go_sem, Nat.reduceAdd, Nat.reduceLT, Nat.reduceMul, Nat.reduceLeDiff, Nat.lt_irrefl, Int.reduceToNat, Int.reduceLT, Int.reduceLE, ha0, on_atB hl0, lt_add hl0, lt_at hl0, on_updB hl0, on_atU hl0, on_updU hl0, upd_same ha0, Option.getD_some]; rfl) (by simp (disch := (apply Apart.mk; decide)) only [go_sem, Nat.reduceAdd, Nat.reduceLT, Nat.reduceMul, Nat.reduceLeDiff, Nat.lt_irrefl, Int.reduceToNat, Int.reduceLT, Int.reduceLE, ha0, on_atB hl0, lt_add hl0, lt_at hl0, on_updB hl0, on_atU hl0, on_updU hl0, upd_same ha0, Option.getD_some]; rfl) ?c_eF11 ?d_eF11 ?_
            case c_eF11 => (rw [show ((IntKind.u8.wrap c) : Int) = ((u8 (IntKind.u8.wrap c)).toNat : Int) from u8_wrap.symm]; exact scansionref17_behind_runs ends (u8 (IntKind.u8.wrap c)) eF11)
            case d_eF11 => rfl
            refine w_ops_end (by simp (disch := (apply Apart.mk; decide)) only [go_sem, Nat.reduceAdd, Nat.reduceLT, Nat.reduceMul, Nat.reduceLeDiff, Nat.lt_irrefl, Int.reduceToNat, Int.reduceLT, Int.reduceLE, ha0, on_atB hl0, lt_add hl0, lt_at hl0, on_updB hl0, on_atU hl0, on_updU hl0, upd_same ha0]; rfl) ?_
            refine (w_n ?_)
            refine w_seq ?_
            refine w_region rfl (by simp (disch := (apply Apart.mk; decide)) only [go_sem, Nat.reduceAdd, Nat.reduceLT, Nat.reduceMul, Nat.reduceLeDiff, Nat.lt_irrefl, Int.reduceToNat, Int.reduceLT, Int.reduceLE, ha0, on_atB hl0, lt_add hl0, lt_at hl0, on_updB hl0, on_atU hl0, on_updU hl0, upd_same ha0, cF10]; rfl) ?_
            refine (w_n ?_)
            refine w_condH (by simp (disch := (apply Apart.mk; decide)) only [go_sem, Nat.reduceAdd, Nat.reduceLT, Nat.reduceMul, Nat.reduceLeDiff, Nat.lt_irrefl, Int.reduceToNat, Int.reduceLT, Int.reduceLE, ha0, on_atB hl0, lt_add hl0, lt_at hl0, on_updB hl0, on_atU hl0, on_updU hl0, upd_same ha0, cF10]) hr (fun cF12 hr => ?_) (fun cF12 hr => ?_)
            · refine w_ops rfl ?_
              refine w_upto 5 rfl (by simp (disch := (apply Apart.mk; decide)) only [go_sem, Nat.reduceAdd, Nat.reduceLT, Nat.reduceMul, Nat.reduceLeDiff, Nat.lt_irrefl, Int.reduceToNat, Int.reduceLT, Int.reduceLE, ha0, on_atB hl0, lt_add hl0, lt_at hl0, on_updB hl0, on_atU hl0, on_updU hl0, upd_same ha0]; rfl) ?_
              obtain ⟨r2, eF13, hr⟩ := hr.bind
              refine w_call' (out := ?o_eF13) (hp := ?p_eF13) rfl (by simp (disch := (apply Apart.mk; decide)) only [go_sem, Nat.reduceAdd, Nat.reduceLT, Nat.reduceMul, Nat.reduceLeDiff, Nat.lt_irrefl, Int.reduceToNat, Int.reduceLT, Int.reduceLE, ha0, on_atB hl0, lt_add hl0, lt_at hl0, on_updB hl0, on_atU hl0, on_updU hl0, upd_same ha0, Option.getD_some]; rfl) (by simp (disch := (apply Apart.mk; decide)) only [go_sem, Nat.reduceAdd, Nat.reduceLT, Nat.reduceMul, Nat.reduceLeDiff, Nat.lt_irrefl, Int.reduceToNat, Int.reduceLT, Int.reduceLE, ha0, on_atB hl0, lt_add hl0, lt_at hl0, on_updB hl0, on_atU hl0, on_updU hl0, upd_same ha0, Option.getD_some]; rfl) (by simp (disch := (apply Apart.mk; decide)) only [go_sem, Nat.reduceAdd, Nat.reduceLT, Nat.reduceMul, Nat.reduceLeDiff, Nat.lt_irrefl, Int.reduceToNat, Int.reduceLT, Int.reduceLE, ha0, on_atB hl0, lt_add hl0, lt_at hl0, on_updB hl0, on_atU hl0, on_updU hl0, upd_same ha0, Option.getD_some]; rfl) ?c_eF13 ?d_eF13 ?_
              case c_eF13 => (refine ih (Tscansionref17_maker.mk (TGraph.mk Final2 Edges1) ends2) r1 (l0) ?_ eF13; (simp (disch := (apply Apart.mk; decide)) only [go_sem, Nat.reduceAdd, Nat.reduceLT, Nat.reduceMul, Nat.reduceLeDiff, Nat.lt_irrefl, Int.reduceToNat, Int.reduceLT, Int.reduceLE, ha0, on_atB hl0, lt_add hl0, lt_at hl0, on_updB hl0, on_atU hl0, on_updU hl0, upd_same ha0]))
              case d_eF13 => rfl
              obtain ⟨nF14, hr⟩ := hr.room
              refine w_ops_end (by simp (disch := (apply Apart.mk; decide)) only [go_sem, Nat.reduceAdd, Nat.reduceLT, Nat.reduceMul, Nat.reduceLeDiff, Nat.lt_irrefl, Int.reduceToNat, Int.reduceLT, Int.reduceLE, ha0, on_atB hl0, lt_add hl0, lt_at hl0, on_updB hl0, on_atU hl0, on_updU hl0, upd_same ha0, nF14]; rfl) ?_
              exact (w_bn (w_k ⟨((edges1 ++ ([(TEdge.mk (u8 (IntKind.u8.wrap c)) r2.1)])), r2.2.g.Final, r2.2.g.Edges, r2.2.ends), hr, (To.cut (h := (h.upd l0 (.cells [.row 4 (List.map eB r2.2.g.Final), .row 35 (List.map (eL eEdge) r2.2.g.Edges), .row 9 (List.map eS r2.2.ends)]))) (WF.upd hwf hl0 (by simp (disch := (apply Apart.mk; decide)) only [go_sem, Nat.reduceAdd, Nat.reduceLT, Nat.reduceMul, Nat.reduceLeDiff, Nat.lt_irrefl, Int.reduceToNat, Int.reduceLT, Int.reduceLE, ha0, on_atB hl0, lt_add hl0, lt_at hl0, on_updB hl0, on_atU hl0, on_updU hl0, upd_same ha0])) (Nat.le_refl _) (by first | rfl | (simp (disch := (apply Apart.mk; decide)) only [go_sem, Nat.reduceAdd, Nat.reduceLT, Nat.reduceMul, Nat.reduceLeDiff, Nat.lt_irrefl, Int.reduceToNat, Int.reduceLT, Int.reduceLE, ha0, on_atB hl0, lt_add hl0, lt_at hl0, on_updB hl0, on_atU hl0, on_updU hl0, upd_same ha0, cF10, cF12]; rfl)) (by simp (disch := (apply Apart.mk; decide)) only [go_sem, Nat.reduceAdd, Nat.reduceLT, Nat.reduceMul, Nat.reduceLeDiff, Nat.lt_irrefl, Int.reduceToNat, Int.reduceLT, Int.reduceLE, ha0, on_atB hl0, lt_add hl0, lt_at hl0, on_updB hl0, on_atU hl0, on_updU hl0, upd_same ha0, cF10, cF12]))⟩))
            · refine w_skip ?_
              exact (w_bn (w_k ⟨(edges1, Final2, Edges1, ends2), hr, (To.cut (h := (h.upd l0 (.cells [.row 4 (List.map eB Final2), .row 35 (List.map (eL eEdge) Edges1), .row 9 (List.map eS ends2)]))) (WF.upd hwf hl0 (by simp (disch := (apply Apart.mk; decide)) only [go_sem, Nat.reduceAdd, Nat.reduceLT, Nat.reduceMul, Nat.reduceLeDiff, Nat.lt_irrefl, Int.reduceToNat, Int.reduceLT, Int.reduceLE, ha0, on_atB hl0, lt_add hl0, lt_at hl0, on_updB hl0, on_atU hl0, on_updU hl0, upd_same ha0])) (Nat.le_refl _) (by first | rfl | (simp (disch := (apply Apart.mk; decide)) only [go_sem, Nat.reduceAdd, Nat.reduceLT, Nat.reduceMul, Nat.reduceLeDiff, Nat.lt_irrefl, Int.reduceToNat, Int.reduceLT, Int.reduceLE, ha0, on_atB hl0, lt_add hl0, lt_at hl0, on_updB hl0, on_atU hl0, on_updU hl0, upd_same ha0, cF10, cF12]; rfl)) (by simp (disch := (apply Apart.mk; decide)) only [go_sem, Nat.reduceAdd, Nat.reduceLT, Nat.reduceMul, Nat.reduceLeDiff, Nat.lt_irrefl, Int.reduceToNat, Int.reduceLT, Int.reduceLE, ha0, on_atB hl0, lt_add hl0, lt_at hl0, on_updB hl0, on_atU hl0, on_updU hl0, upd_same ha0, cF10, cF12]))⟩))
        · refine w_exit ?_
          exact (w_te (w_te (w_bx (w_k ⟨(edges1, Final2, Edges1, ends2), (hr).map, (To.cut (h := (h.upd l0 (.cells [.row 4 (List.map eB Final2), .row 35 (List.map (eL eEdge) Edges1), .row 9 (List.map eS ends2)]))) (WF.upd hwf hl0 (by simp (disch := (apply Apart.mk; decide)) only [go_sem, Nat.reduceAdd, Nat.reduceLT, Nat.reduceMul, Nat.reduceLeDiff, Nat.lt_irrefl, Int.reduceToNat, Int.reduceLT, Int.reduceLE, ha0, on_atB hl0, lt_add hl0, lt_at hl0, on_updB hl0, on_atU hl0, on_updU hl0, upd_same ha0])) (Nat.le_refl _) (by first | rfl | (simp (disch := (apply Apart.mk; decide)) only [go_sem, Nat.reduceAdd, Nat.reduceLT, Nat.reduceMul, Nat.reduceLeDiff, Nat.lt_irrefl, Int.reduceToNat, Int.reduceLT, Int.reduceLE, ha0, on_atB hl0, lt_add hl0, lt_at hl0, on_updB hl0, on_atU hl0, on_updU hl0, upd_same ha0, cF10]; rfl)) (by simp (disch := (apply Apart.mk; decide)) only [go_sem, Nat.reduceAdd, Nat.reduceLT, Nat.reduceMul, Nat.reduceLeDiff, Nat.lt_irrefl, Int.reduceToNat, Int.reduceLT, Int.reduceLE, ha0, on_atB hl0, lt_add hl0, lt_at hl0, on_updB hl0, on_atU hl0, on_updU hl0, upd_same ha0, cF10]))⟩))))
    · refine w_block ?_
      refine w_Loop (fun xX : Int => ⟨[(0, .cv (.val (.ptr (some (l0, 0))))), (1, .cv (.val (.sl (List.map eS ends)))), (5, .cv (.val (.str (bs r)))), (6, .cv (.val (.int .i64 xX)))], h.on []⟩) hr (To.cut hwf (Nat.le_refl _) (by first | rfl | (simp (disch := (apply Apart.mk; decide)) only [go_sem, Nat.reduceAdd, Nat.reduceLT, Nat.reduceMul, Nat.reduceLeDiff, Nat.lt_irrefl, Int.reduceToNat, Int.reduceLT, Int.reduceLE, ha0, on_atB hl0, lt_add hl0, lt_at hl0, on_updB hl0, on_atU hl0, on_updU hl0, upd_same ha0]; rfl)) (by simp (disch := (apply Apart.mk; decide)) only [go_sem, Nat.reduceAdd, Nat.reduceLT, Nat.reduceMul, Nat.reduceLeDiff, Nat.lt_irrefl, Int.reduceToNat, Int.reduceLT, Int.reduceLE, ha0, on_atB hl0, lt_add hl0, lt_at hl0, on_updB hl0, on_atU hl0, on_updU hl0, upd_same ha0])) (fun W2 xX hr => ?_)
      obtain ⟨i, rfl⟩ : ∃ z, z = xX := ⟨xX, rfl⟩
      dsimp only [scansionref17_maker_state.b2] at hr
      refine w_seq ?_
      refine w_seq ?_
      refine w_region rfl (by simp (disch := (apply Apart.mk; decide)) only [go_sem, Nat.reduceAdd, Nat.reduceLT, Nat.reduceMul, Nat.reduceLeDiff, Nat.lt_irrefl, Int.reduceToNat, Int.reduceLT, Int.reduceLE, ha0, on_atB hl0, lt_add hl0, lt_at hl0, on_updB hl0, on_atU hl0, on_updU hl0, upd_same ha0]; rfl) ?_
      refine (w_n ?_)
      refine w_condH (by simp (disch := (apply Apart.mk; decide)) only [go_sem, Nat.reduceAdd, Nat.reduceLT, Nat.reduceMul, Nat.reduceLeDiff, Nat.lt_irrefl, Int.reduceToNat, Int.reduceLT, Int.reduceLE, ha0, on_atB hl0, lt_add hl0, lt_at hl0, on_updB hl0, on_atU hl0, on_updU hl0, upd_same ha0]) hr (fun cF15 hr => ?_) (fun cF15 hr => ?_)
      · refine w_skip ?_
        refine (w_n ?_)
        refine w_seq ?_
        refine w_block ?_
        refine w_seq ?_
        obtain ⟨s1, nF16, eF17, gF18, hr⟩ := hr.idx
        refine w_region rfl (by simp (disch := (apply Apart.mk; decide)) only [go_sem, Nat.reduceAdd, Nat.reduceLT, Nat.reduceMul, Nat.reduceLeDiff, Nat.lt_irrefl, Int.reduceToNat, Int.reduceLT, Int.reduceLE, ha0, on_atB hl0, lt_add hl0, lt_at hl0, on_updB hl0, on_atU hl0, on_updU hl0, upd_same ha0, nF16, eF17, gF18, cF15]; rfl) ?_
        refine (w_n ?_)
        refine w_condH (by simp (disch := (apply Apart.mk; decide)) only [go_sem, Nat.reduceAdd, Nat.reduceLT, Nat.reduceMul, Nat.reduceLeDiff, Nat.lt_irrefl, Int.reduceToNat, Int.reduceLT, Int.reduceLE, ha0, on_atB hl0, lt_add hl0, lt_at hl0, on_updB hl0, on_atU hl0, on_updU hl0, upd_same ha0, cF15]) hr (fun cF19 hr => ?_) (fun cF19 hr => ?_)
        · refine w_seq ?_
          refine w_region rfl (by simp (disch := (apply Apart.mk; decide)) only [go_sem, Nat.reduceAdd, Nat.reduceLT, Nat.reduceMul, Nat.reduceLeDiff, Nat.lt_irrefl, Int.reduceToNat, Int.reduceLT, Int.reduceLE, ha0, on_atB hl0, lt_add hl0, lt_at hl0, on_updB hl0, on_atU hl0, on_updU hl0, upd_same ha0, cF15, cF19]; rfl) ?_
          refine (w_n ?_)
          refine w_ret ?_
          obtain rfl := hD _ hr
          exact (w_br (w_tr (w_tr (w_br (w_tr (w_tr (w_endR (To.cut (os' := []) (sl := [(4, .cv (.val (.int .i64 i)))]) (h := (h.upd l0 (.cells [.row 4 (List.map eB m.g.Final), .row 35 (List.map (eL eEdge) m.g.Edges), .row 9 (List.map eS m.ends)]))) (WF.upd hwf hl0 (by simp (disch := (apply Apart.mk; decide)) only [go_sem, Nat.reduceAdd, Nat.reduceLT, Nat.reduceMul, Nat.reduceLeDiff, Nat.lt_irrefl, Int.reduceToNat, Int.reduceLT, Int.reduceLE, ha0, on_atB hl0, lt_add hl0, lt_at hl0, on_updB hl0, on_atU hl0, on_updU hl0, upd_same ha0])) (Nat.le_refl _) (by first | rfl | (simp (disch := (apply Apart.mk; decide)) only [go_sem, Nat.reduceAdd, Nat.reduceLT, Nat.reduceMul, Nat.reduceLeDiff, Nat.lt_irrefl, Int.reduceToNat, Int.reduceLT, Int.reduceLE, ha0, on_atB hl0, lt_add hl0, lt_at hl0, on_updB hl0, on_atU hl0, on_updU hl0, upd_same ha0, cF15, cF19]; rfl)) (by simp (disch := (apply Apart.mk; decide)) only [go_sem, Nat.reduceAdd, Nat.reduceLT, Nat.reduceMul, Nat.reduceLeDiff, Nat.lt_irrefl, Int.reduceToNat, Int.reduceLT, Int.reduceLE, ha0, on_atB hl0, lt_add hl0, lt_at hl0, on_updB hl0, on_atU hl0, on_updU hl0, upd_same ha0, cF15, cF19])) (by simp (disch := (apply Apart.mk; decide)) only [go_sem, Nat.reduceAdd, Nat.reduceLT, Nat.reduceMul, Nat.reduceLeDiff, Nat.lt_irrefl, Int.reduceToNat, Int.reduceLT, Int.reduceLE, ha0, on_atB hl0, lt_add hl0, lt_at hl0, on_updB hl0, on_atU hl0, on_updU hl0, upd_same ha0, Try.results51, results_data CT_gives51, resCell, resVal.eq_2, loadOp_sv, cF15, cF19]) ⟨rfl, on_nil (h := (h.upd l0 (.cells [.row 4 (List.map eB m.g.Final), .row 35 (List.map (eL eEdge) m.g.Edges), .row 9 (List.map eS m.ends)]))) (WF.upd hwf hl0 (by simp (disch := (apply Apart.mk; decide)) only [go_sem, Nat.reduceAdd, Nat.reduceLT, Nat.reduceMul, Nat.reduceLeDiff, Nat.lt_irrefl, Int.reduceToNat, Int.reduceLT, Int.reduceLE, ha0, on_atB hl0, lt_add hl0, lt_at hl0, on_updB hl0, on_atU hl0, on_updU hl0, upd_same ha0]))⟩)))))))
        · refine w_skip ?_
          refine (w_bn (w_n ?_))
          refine w_region rfl (by simp (disch := (apply Apart.mk; decide)) only [go_sem, Nat.reduceAdd, Nat.reduceLT, Nat.reduceMul, Nat.reduceLeDiff, Nat.lt_irrefl, Int.reduceToNat, Int.reduceLT, Int.reduceLE, ha0, on_atB hl0, lt_add hl0, lt_at hl0, on_updB hl0, on_atU hl0, on_updU hl0, upd_same ha0, cF15, cF19]; rfl) ?_
          exact (w_k ⟨(IntKind.i64.wrap (i + (1 : Int))), hr, (To.cut hwf (Nat.le_refl _) (by first | rfl | (simp (disch := (apply Apart.mk; decide)) only [go_sem, Nat.reduceAdd, Nat.reduceLT, Nat.reduceMul, Nat.reduceLeDiff, Nat.lt_irrefl, Int.reduceToNat, Int.reduceLT, Int.reduceLE, ha0, on_atB hl0, lt_add hl0, lt_at hl0, on_updB hl0, on_atU hl0, on_updU hl0, upd_same ha0, cF15, cF19]; rfl)) (by simp (disch := (apply Apart.mk; decide)) only [go_sem, Nat.reduceAdd, Nat.reduceLT, Nat.reduceMul, Nat.reduceLeDiff, Nat.lt_irrefl, Int.reduceToNat, Int.reduceLT, Int.reduceLE, ha0, on_atB hl0, lt_add hl0, lt_at hl0, on_updB hl0, on_atU hl0, on_updU hl0, upd_same ha0, cF15, cF19]))⟩)
      · refine w_exit ?_
        exact (w_te (w_te (w_bx (w_k ⟨(), (hr).map, (To.cut hwf (Nat.le_refl _) (by first | rfl | (simp (disch := (apply Apart.mk; decide)) only [go_sem, Nat.reduceAdd, Nat.reduceLT, Nat.reduceMul, Nat.reduceLeDiff, Nat.lt_irrefl, Int.reduceToNat, Int.reduceLT, Int.reduceLE, ha0, on_atB hl0, lt_add hl0, lt_at hl0, on_updB hl0, on_atU hl0, on_updU hl0, upd_same ha0, cF15]; rfl)) (by simp (disch := (apply Apart.mk; decide)) only [go_sem, Nat.reduceAdd, Nat.reduceLT, Nat.reduceMul, Nat.reduceLeDiff, Nat.lt_irrefl, Int.reduceToNat, Int.reduceLT, Int.reduceLE, ha0, on_atB hl0, lt_add hl0, lt_at hl0, on_updB hl0, on_atU hl0, on_updU hl0, upd_same ha0, cF15]))⟩))))
theorem scansionref17_maker_state_runs (m : Tscansionref17_maker) (ends : List Str) (l0 : Nat) {h : Heap} (ha0 : h.at_ l0 = some (.cells [.row 4 (List.map eB m.g.Final), .row 35 (List.map (eL eEdge) m.g.Edges), .row 9 (List.map eS m.ends)])) {a : (Int × Tscansionref17_maker)} (e : scansionref17_maker_state m ends = some a) :
    Runs CT 51 [.cv (.val (.ptr (some (l0, 0)))), .cv (.val (.sl (List.map eS ends)))] h fun o h' => o = [.cv (.val (.int .i64 a.1))] ∧ h' = (h.upd l0 (.cells [.row 4 (List.map eB a.2.g.Final), .row 35 (List.map (eL eEdge) a.2.g.Edges), .row 9 (List.map eS a.2.ends)])) := by
  obtain ⟨n, hn⟩ := lim_some e
  exact scansionref17_maker_state_runs_r n m ends l0 ha0 (hn n (Nat.le_refl n))
end Go.Val

/- part GW17 -/
/- scansion/scansionref17.Build runs as it is read off. -/
namespace Go.Val
set_option linter.unusedVariables false
set_option linter.unusedSimpArgs false
set_option maxRecDepth 20000
open Go.Proofs
theorem scansionref17_Build_runs (words : List Str) {h : Heap} {a : (TGraph × Int)} (e : scansionref17_Build words = some a) :
    Runs CT 17 [.cv (.val (.sl (List.map eS words)))] h fun o h' => o = [.cv (.val (.agg [.sl (List.map eB a.1.Final), .sl (List.map (eL eEdge) a.1.Edges)])), .cv (.val (.int .i64 a.2))] ∧ h' = h := by
  refine Runs.start Try.f17 _ Try.func17 rfl (by rw [Try.ntmps17]; simp) (by rfl) (by rfl) (fun hwf hu => ?_)
  obtain ⟨D, hD, hr⟩ : ∃ D : (TGraph × Int) → Prop, (∀ z, D z → z = a) ∧ Holds (scansionref17_Build words) D := ⟨fun z => z = a, fun _ h => h, Holds.intro e rfl⟩
  dsimp only [scansionref17_Build] at hr
  change wpCode _ _ _ _ _ ⟨[(0, .cv (.val (.sl (List.map eS words))))], h.on []⟩
  refine w_seq ?_
  refine w_region rfl (by simp (disch := (apply Apart.mk; decide)) only [go_sem, Nat.reduceAdd, Nat.reduceLT, Nat.reduceMul, Nat.reduceLeDiff, Nat.lt_irrefl, Int.reduceToNat, Int.reduceLT, Int.reduceLE]; rfl) ?_
  refine (w_n ?_)
  refine w_seq ?_
  refine w_ops rfl ?_
  refine w_upto 1 rfl (by simp (disch := (apply Apart.mk; decide)) only [go_sem, Nat.reduceAdd, Nat.reduceLT, Nat.reduceMul, Nat.reduceLeDiff, Nat.lt_irrefl, Int.reduceToNat, Int.reduceLT, Int.reduceLE]; rfl) ?_
  obtain ⟨r, eF1, hr⟩ := hr.bind
  refine w_call' (out := ?o_eF1) (hp := ?p_eF1) rfl (by simp (disch := (apply Apart.mk; decide)) only [go_sem, Nat.reduceAdd, Nat.reduceLT, Nat.reduceMul, Nat.reduceLeDiff, Nat.lt_irrefl, Int.reduceToNat, Int.reduceLT, Int.reduceLE, Option.getD_some]; rfl) (by simp (disch := (apply Apart.mk; decide)) only [go_sem, Nat.reduceAdd, Nat.reduceLT, Nat.reduceMul, Nat.reduceLeDiff, Nat.lt_irrefl, Int.reduceToNat, Int.reduceLT, Int.reduceLE, Option.getD_some]; rfl) (by simp (disch := (apply Apart.mk; decide)) only [go_sem, Nat.reduceAdd, Nat.reduceLT, Nat.reduceMul, Nat.reduceLeDiff, Nat.lt_irrefl, Int.reduceToNat, Int.reduceLT, Int.reduceLE, Option.getD_some]; rfl) ?c_eF1 ?d_eF1 ?_
  case c_eF1 => exact scansionref17_right_runs words eF1
  case d_eF1 => rfl
  refine w_ops_end (by simp (disch := (apply Apart.mk; decide)) only [go_sem, Nat.reduceAdd, Nat.reduceLT, Nat.reduceMul, Nat.reduceLeDiff, Nat.lt_irrefl, Int.reduceToNat, Int.reduceLT, Int.reduceLE]; rfl) ?_
  refine (w_n ?_)
  refine w_seq ?_
  refine w_seq ?_
  refine w_region rfl (by simp (disch := (apply Apart.mk; decide)) only [go_sem, Nat.reduceAdd, Nat.reduceLT, Nat.reduceMul, Nat.reduceLeDiff, Nat.lt_irrefl, Int.reduceToNat, Int.reduceLT, Int.reduceLE]; rfl) ?_
  refine (w_n ?_)
  refine w_condH (by simp (disch := (apply Apart.mk; decide)) only [go_sem, Nat.reduceAdd, Nat.reduceLT, Nat.reduceMul, Nat.reduceLeDiff, Nat.lt_irrefl, Int.reduceToNat, Int.reduceLT, Int.reduceLE]) hr (fun cF2 hr => ?_) (fun cF2 hr => ?_)
  · refine w_seq ?_
    refine w_region rfl (by simp (disch := (apply Apart.mk; decide)) only [go_sem, Nat.reduceAdd, Nat.reduceLT, Nat.reduceMul, Nat.reduceLeDiff, Nat.lt_irrefl, Int.reduceToNat, Int.reduceLT, Int.reduceLE, cF2]; rfl) ?_
    refine (w_n ?_)
    refine w_ret ?_
    obtain rfl := hD _ hr
    exact (w_tr (w_endRD (To.cut (os' := [some (.cells [.val (.sl (List.map eB ([] : List Bool))), .val (.sl (List.map (eL eEdge) ([] : List (List TEdge))))])]) (sl := [(2, .cv (.val (.ptr (some (h.n + 0, 0))))), (3, .cv (.val (.int .i64 (1 : Int))))]) hwf (Nat.le_refl _) rfl (by simp (disch := (apply Apart.mk; decide)) only [go_sem, Nat.reduceAdd, Nat.reduceLT, Nat.reduceMul, Nat.reduceLeDiff, Nat.lt_irrefl, Int.reduceToNat, Int.reduceLT, Int.reduceLE, cF2])) (by simp (disch := (apply Apart.mk; decide)) only [go_sem, Nat.reduceAdd, Nat.reduceLT, Nat.reduceMul, Nat.reduceLeDiff, Nat.lt_irrefl, Int.reduceToNat, Int.reduceLT, Int.reduceLE, Try.results17, results_data CT_gives17, resCell, resVal.eq_2, loadOp_sv, cF2]) (Drops.on (os := [some (.cells [.val (.sl (List.map eB ([] : List Bool))), .val (.sl (List.map (eL eEdge) ([] : List (List TEdge))))])]) (os' := []) hwf (Nat.le_refl _) (by simp (disch := (apply Apart.mk; decide)) only [go_sem, Nat.reduceAdd, Nat.reduceLT, Nat.reduceMul, Nat.reduceLeDiff, Nat.lt_irrefl, Int.reduceToNat, Int.reduceLT, Int.reduceLE, cF2])) ⟨rfl, on_nil hwf⟩))
  · refine w_skip ?_
    refine (w_n ?_)
    refine w_seq ?_
    refine w_region rfl (by simp (disch := (apply Apart.mk; decide)) only [go_sem, Nat.reduceAdd, Nat.reduceLT, Nat.reduceMul, Nat.reduceLeDiff, Nat.lt_irrefl, Int.reduceToNat, Int.reduceLT, Int.reduceLE, cF2]; rfl) ?_
    refine (w_n ?_)
    refine w_seq ?_
    refine w_toR (s1 := ⟨[(0, .cv (.val (.sl (List.map eS words)))), (2, .cv (.val (.ptr (some (h.n + 0, 0))))), (5, .cv (.val (.ptr (some (h.n + 1, 0)))))], h.on [some (.cells [.nil, .nil]), some (.cells [.row 4 (List.map eB []), .row 35 (List.map (eL eEdge) []), .row 9 (List.map eS [])])]⟩) (To.cut hwf (Nat.le_refl _) rfl (by simp (disch := (apply Apart.mk; decide)) only [go_sem, Nat.reduceAdd, Nat.reduceLT, Nat.reduceMul, Nat.reduceLeDiff, Nat.lt_irrefl, Int.reduceToNat, Int.reduceLT, Int.reduceLE, cF2])) ?_
    refine w_ops rfl ?_
    refine w_upto 2 rfl (by simp (disch := (apply Apart.mk; decide)) only [go_sem, Nat.reduceAdd, Nat.reduceLT, Nat.reduceMul, Nat.reduceLeDiff, Nat.lt_irrefl, Int.reduceToNat, Int.reduceLT, Int.reduceLE]; rfl) ?_
    obtain ⟨r1, eF3, hr⟩ := hr.bind
    refine w_call' (out := ?o_eF3) (hp := ?p_eF3) rfl (by simp (disch := (apply Apart.mk; decide)) only [go_sem, Nat.reduceAdd, Nat.reduceLT, Nat.reduceMul, Nat.reduceLeDiff, Nat.lt_irrefl, Int.reduceToNat, Int.reduceLT, Int.reduceLE, Option.getD_some]; rfl) (by simp (disch := (apply Apart.mk; decide)) only [go_sem, Nat.reduceAdd, Nat.reduceLT, Nat.reduceMul, Nat.reduceLeDiff, Nat.lt_irrefl, Int.reduceToNat, Int.reduceLT, Int.reduceLE, Option.getD_some]; rfl) (by simp (disch := (apply Apart.mk; decide)) only [go_sem, Nat.reduceAdd, Nat.reduceLT, Nat.reduceMul, Nat.reduceLeDiff, Nat.lt_irrefl, Int.reduceToNat, Int.reduceLT, Int.reduceLE, Option.getD_some]; rfl) ?c_eF3 ?d_eF3 ?_
    case c_eF3 => (refine scansionref17_maker_state_runs (Tscansionref17_maker.mk (TGraph.mk [] []) []) words (h.n + 1) ?_ eF3; (simp (disch := (apply Apart.mk; decide)) only [go_sem, Nat.reduceAdd, Nat.reduceLT, Nat.reduceMul, Nat.reduceLeDiff, Nat.lt_irrefl, Int.reduceToNat, Int.reduceLT, Int.reduceLE]))
    case d_eF3 => rfl
    refine w_ops_nil ?_
    refine (w_n ?_)
    refine w_seq ?_
    refine w_toR (.fix _ _ (.cell (h.n + 1) 0) 4 _ (by simp (disch := (apply Apart.mk; decide)) only [go_sem, Nat.reduceAdd, Nat.reduceLT, Nat.reduceMul, Nat.reduceLeDiff, Nat.lt_irrefl, Int.reduceToNat, Int.reduceLT, Int.reduceLE, cF2]; rfl) (.refl _)) ?_
    refine w_toR (.fix _ _ (.cell (h.n + 1) 1) 35 _ (by simp (disch := (apply Apart.mk; decide)) only [go_sem, Nat.reduceAdd, Nat.reduceLT, Nat.reduceMul, Nat.reduceLeDiff, Nat.lt_irrefl, Int.reduceToNat, Int.reduceLT, Int.reduceLE, cF2]; rfl) (.refl _)) ?_
    refine w_region rfl (by simp (disch := (apply Apart.mk; decide)) only [go_sem, Nat.reduceAdd, Nat.reduceLT, Nat.reduceMul, Nat.reduceLeDiff, Nat.lt_irrefl, Int.reduceToNat, Int.reduceLT, Int.reduceLE, cF2]; rfl) ?_
    refine (w_n ?_)
    refine w_ret ?_
    obtain rfl := hD _ hr
    exact (w_endRD (To.cut (os' := [some (.cells [.val (.sl (List.map eB r1.2.g.Final)), .val (.sl (List.map (eL eEdge) r1.2.g.Edges))])]) (sl := [(2, .cv (.val (.ptr (some (h.n + 0, 0))))), (3, .cv (.val (.int .i64 (0 : Int))))]) hwf (Nat.le_refl _) rfl (by simp (disch := (apply Apart.mk; decide)) only [go_sem, Nat.reduceAdd, Nat.reduceLT, Nat.reduceMul, Nat.reduceLeDiff, Nat.lt_irrefl, Int.reduceToNat, Int.reduceLT, Int.reduceLE, cF2])) (by simp (disch := (apply Apart.mk; decide)) only [go_sem, Nat.reduceAdd, Nat.reduceLT, Nat.reduceMul, Nat.reduceLeDiff, Nat.lt_irrefl, Int.reduceToNat, Int.reduceLT, Int.reduceLE, Try.results17, results_data CT_gives17, resCell, resVal.eq_2, loadOp_sv, cF2]) (Drops.on (os := [some (.cells [.val (.sl (List.map eB r1.2.g.Final)), .val (.sl (List.map (eL eEdge) r1.2.g.Edges))])]) (os' := []) hwf (Nat.le_refl _) (by simp (disch := (apply Apart.mk; decide)) only [go_sem, Nat.reduceAdd, Nat.reduceLT, Nat.reduceMul, Nat.reduceLeDiff, Nat.lt_irrefl, Int.reduceToNat, Int.reduceLT, Int.reduceLE, cF2])) ⟨rfl, on_nil hwf⟩)
end Go.Val

/- part GW28 -/
/- (*scansion/darray.Array).Start runs as it is read off. -/
namespace Go.Val
set_option linter.unusedVariables false
set_option linter.unusedSimpArgs false
set_option maxRecDepth 20000
open Go.Proofs
theorem darray_Array_Start_runs (a_ : Tdarray_Array) (l0 : Nat) {h : Heap} (ha0 : h.at_ l0 = some (.cells [.val (.sl (List.map eB a_.graph.Final)), .val (.sl (List.map (eL eEdge) a_.graph.Edges)), .row 3 (List.map eI a_.base), .row 91 (List.map edarray_cell a_.cells), .val (.sl (List.map eI a_.count))])) {a : Int} (e : darray_Array_Start a_ = some a) :
    Runs CT 28 [.cv (.val (.ptr (some (l0, 0))))] h fun o h' => o = [.cv (.val (.int .i64 a))] ∧ h' = h := by
  refine Runs.start Try.f28 _ Try.func28 rfl (by rw [Try.ntmps28]; simp) (by rfl) (by rfl) (fun hwf hu => ?_)
  have hl0 := (hwf _ _ ha0).1
  obtain ⟨D, hD, hr⟩ : ∃ D : Int → Prop, (∀ z, D z → z = a) ∧ Holds (darray_Array_Start a_) D := ⟨fun z => z = a, fun _ h => h, Holds.intro e rfl⟩
  dsimp only [darray_Array_Start] at hr
  change wpCode _ _ _ _ _ ⟨[(0, .cv (.val (.ptr (some (l0, 0)))))], h.on []⟩
  refine w_seq ?_
  refine w_region rfl (by simp (disch := (apply Apart.mk; decide)) only [go_sem, Nat.reduceAdd, Nat.reduceLT, Nat.reduceMul, Nat.reduceLeDiff, Nat.lt_irrefl, Int.reduceToNat, Int.reduceLT, Int.reduceLE, ha0, on_atB hl0, lt_add hl0, lt_at hl0]; rfl) ?_
  refine (w_n ?_)
  refine w_seq ?_
  refine w_region rfl (by simp (disch := (apply Apart.mk; decide)) only [go_sem, Nat.reduceAdd, Nat.reduceLT, Nat.reduceMul, Nat.reduceLeDiff, Nat.lt_irrefl, Int.reduceToNat, Int.reduceLT, Int.reduceLE, ha0, on_atB hl0, lt_add hl0, lt_at hl0]; rfl) ?_
  refine (w_n ?_)
  refine w_ret ?_
  obtain rfl := hD _ hr
  exact (w_endR (To.cut (os' := []) (sl := [(2, .cv (.val (.int .i64 (IntKind.i64.wrap ((a_.base.length : Int) - (1 : Int))))))]) hwf (Nat.le_refl _) (by first | rfl | (simp (disch := (apply Apart.mk; decide)) only [go_sem, Nat.reduceAdd, Nat.reduceLT, Nat.reduceMul, Nat.reduceLeDiff, Nat.lt_irrefl, Int.reduceToNat, Int.reduceLT, Int.reduceLE, ha0, on_atB hl0, lt_add hl0, lt_at hl0]; rfl)) (by simp (disch := (apply Apart.mk; decide)) only [go_sem, Nat.reduceAdd, Nat.reduceLT, Nat.reduceMul, Nat.reduceLeDiff, Nat.lt_irrefl, Int.reduceToNat, Int.reduceLT, Int.reduceLE, ha0, on_atB hl0, lt_add hl0, lt_at hl0])) (by simp (disch := (apply Apart.mk; decide)) only [go_sem, Nat.reduceAdd, Nat.reduceLT, Nat.reduceMul, Nat.reduceLeDiff, Nat.lt_irrefl, Int.reduceToNat, Int.reduceLT, Int.reduceLE, ha0, on_atB hl0, lt_add hl0, lt_at hl0, Try.results28, results_data CT_gives28, resCell, resVal.eq_2, loadOp_sv]) ⟨rfl, on_nil hwf⟩)
end Go.Val

/- part GW31 -/
/- (*scansion/darray.Array).Words runs as it is read off. -/
namespace Go.Val
set_option linter.unusedVariables false
set_option linter.unusedSimpArgs false
set_option maxRecDepth 20000
open Go.Proofs
theorem darray_Array_Words_runs (a_ : Tdarray_Array) (l0 : Nat) {h : Heap} (ha0 : h.at_ l0 = some (.cells [.val (.sl (List.map eB a_.graph.Final)), .val (.sl (List.map (eL eEdge) a_.graph.Edges)), .row 3 (List.map eI a_.base), .row 91 (List.map edarray_cell a_.cells), .val (.sl (List.map eI a_.count))])) {a : Int} (e : darray_Array_Words a_ = some a) :
    Runs CT 31 [.cv (.val (.ptr (some (l0, 0))))] h fun o h' => o = [.cv (.val (.int .i64 a))] ∧ h' = h := by
  refine Runs.start Try.f31 _ Try.func31 rfl (by rw [Try.ntmps31]; simp) (by rfl) (by rfl) (fun hwf hu => ?_)
  have hl0 := (hwf _ _ ha0).1
  obtain ⟨D, hD, hr⟩ : ∃ D : Int → Prop, (∀ z, D z → z = a) ∧ Holds (darray_Array_Words a_) D := ⟨fun z => z = a, fun _ h => h, Holds.intro e rfl⟩
  dsimp only [darray_Array_Words] at hr
  change wpCode _ _ _ _ _ ⟨[(0, .cv (.val (.ptr (some (l0, 0)))))], h.on []⟩
  refine w_seq ?_
  refine w_region rfl (by simp (disch := (apply Apart.mk; decide)) only [go_sem, Nat.reduceAdd, Nat.reduceLT, Nat.reduceMul, Nat.reduceLeDiff, Nat.lt_irrefl, Int.reduceToNat, Int.reduceLT, Int.reduceLE, ha0, on_atB hl0, lt_add hl0, lt_at hl0]; rfl) ?_
  refine (w_n ?_)
  refine w_seq ?_
  refine w_drawn [0, 1, 2, 3, 4, 5, 6, 7, 8, 9, 10, 11, 12] (by rfl) ?_
  obtain ⟨n, nF1, eF2, gF3, hr⟩ := hr.idx
  refine p_run (l := [0, 1, 2, 3, 4, 5, 6, 7, 8, 9, 10, 11]) (pend' := [11, 10, 9, 8, 7, 6, 5, 4, 3, 2, 1, 0]) (by simp (disch := (apply Apart.mk; decide)) only [go_sem, Nat.reduceAdd, Nat.reduceLT, Nat.reduceMul, Nat.reduceLeDiff, Nat.lt_irrefl, Int.reduceToNat, Int.reduceLT, Int.reduceLE, ha0, on_atB hl0, lt_add hl0, lt_at hl0, nF1, eF2, gF3]; rfl) rfl ?_
  refine p_op (pend' := []) rfl (by simp (disch := (apply Apart.mk; decide)) only [go_sem, Nat.reduceAdd, Nat.reduceLT, Nat.reduceMul, Nat.reduceLeDiff, Nat.lt_irrefl, Int.reduceToNat, Int.reduceLT, Int.reduceLE, ha0, on_atB hl0, lt_add hl0, lt_at hl0, nF1, eF2, gF3]) (by simp (disch := (apply Apart.mk; decide)) only [go_sem, Nat.reduceAdd, Nat.reduceLT, Nat.reduceMul, Nat.reduceLeDiff, Nat.lt_irrefl, Int.reduceToNat, Int.reduceLT, Int.reduceLE, ha0, on_atB hl0, lt_add hl0, lt_at hl0, nF1, eF2, gF3]; rfl) (by rfl) ?_
  refine p_end (by simp (disch := (apply Apart.mk; decide)) only [go_sem, Nat.reduceAdd, Nat.reduceLT, Nat.reduceMul, Nat.reduceLeDiff, Nat.lt_irrefl, Int.reduceToNat, Int.reduceLT, Int.reduceLE, ha0, on_atB hl0, lt_add hl0, lt_at hl0, nF1, eF2, gF3]) ?_
  refine (w_n ?_)
  refine w_ret ?_
  obtain rfl := hD _ hr
  exact (w_endR (To.cut (os' := []) (sl := [(2, .cv (.val (.int .i64 n)))]) hwf (Nat.le_refl _) (by first | rfl | (simp (disch := (apply Apart.mk; decide)) only [go_sem, Nat.reduceAdd, Nat.reduceLT, Nat.reduceMul, Nat.reduceLeDiff, Nat.lt_irrefl, Int.reduceToNat, Int.reduceLT, Int.reduceLE, ha0, on_atB hl0, lt_add hl0, lt_at hl0]; rfl)) (by simp (disch := (apply Apart.mk; decide)) only [go_sem, Nat.reduceAdd, Nat.reduceLT, Nat.reduceMul, Nat.reduceLeDiff, Nat.lt_irrefl, Int.reduceToNat, Int.reduceLT, Int.reduceLE, ha0, on_atB hl0, lt_add hl0, lt_at hl0])) (by simp (disch := (apply Apart.mk; decide)) only [go_sem, Nat.reduceAdd, Nat.reduceLT, Nat.reduceMul, Nat.reduceLeDiff, Nat.lt_irrefl, Int.reduceToNat, Int.reduceLT, Int.reduceLE, ha0, on_atB hl0, lt_add hl0, lt_at hl0, Try.results31, results_data CT_gives31, resCell, resVal.eq_2, loadOp_sv]) ⟨rfl, on_nil hwf⟩)
end Go.Val

/- part GW29 -/
/- (*scansion/darray.Array).Final runs as it is read off. -/
namespace Go.Val
set_option linter.unusedVariables false
set_option linter.unusedSimpArgs false
set_option maxRecDepth 20000
open Go.Proofs
theorem darray_Array_Final_runs (a_ : Tdarray_Array) (s : Int) (l0 : Nat) {h : Heap} (ha0 : h.at_ l0 = some (.cells [.val (.sl (List.map eB a_.graph.Final)), .val (.sl (List.map (eL eEdge) a_.graph.Edges)), .row 3 (List.map eI a_.base), .row 91 (List.map edarray_cell a_.cells), .val (.sl (List.map eI a_.count))])) {a : Bool} (e : darray_Array_Final a_ s = some a) :
    Runs CT 29 [.cv (.val (.ptr (some (l0, 0)))), .cv (.val (.int .i64 s))] h fun o h' => o = [.cv (.val (.bool a))] ∧ h' = h := by
  refine Runs.start Try.f29 _ Try.func29 rfl (by rw [Try.ntmps29]; simp) (by rfl) (by rfl) (fun hwf hu => ?_)
  have hl0 := (hwf _ _ ha0).1
  obtain ⟨D, hD, hr⟩ : ∃ D : Bool → Prop, (∀ z, D z → z = a) ∧ Holds (darray_Array_Final a_ s) D := ⟨fun z => z = a, fun _ h => h, Holds.intro e rfl⟩
  dsimp only [darray_Array_Final] at hr
  change wpCode _ _ _ _ _ ⟨[(0, .cv (.val (.ptr (some (l0, 0))))), (1, .cv (.val (.int .i64 s)))], h.on []⟩
  refine w_seq ?_
  refine w_region rfl (by simp (disch := (apply Apart.mk; decide)) only [go_sem, Nat.reduceAdd, Nat.reduceLT, Nat.reduceMul, Nat.reduceLeDiff, Nat.lt_irrefl, Int.reduceToNat, Int.reduceLT, Int.reduceLE, ha0, on_atB hl0, lt_add hl0, lt_at hl0]; rfl) ?_
  refine (w_n ?_)
  obtain ⟨v, vF6, hr⟩ := hr.bind
  refine w_joinR (sj := ⟨[(4, .cv (.val (.bool v)))], h.on []⟩) (w_ops rfl ?_) ?_
  · have hr := Holds.intro (D := fun z => z = v) vF6 rfl
    refine w_upto 2 rfl (by simp (disch := (apply Apart.mk; decide)) only [go_sem, Nat.reduceAdd, Nat.reduceLT, Nat.reduceMul, Nat.reduceLeDiff, Nat.lt_irrefl, Int.reduceToNat, Int.reduceLT, Int.reduceLE, ha0, on_atB hl0, lt_add hl0, lt_at hl0]; rfl) ?_
    obtain ⟨r, eF1, hr⟩ := hr.bind
    refine w_call' (out := ?o_eF1) (hp := ?p_eF1) rfl (by simp (disch := (apply Apart.mk; decide)) only [go_sem, Nat.reduceAdd, Nat.reduceLT, Nat.reduceMul, Nat.reduceLeDiff, Nat.lt_irrefl, Int.reduceToNat, Int.reduceLT, Int.reduceLE, ha0, on_atB hl0, lt_add hl0, lt_at hl0, Option.getD_some]; rfl) (by simp (disch := (apply Apart.mk; decide)) only [go_sem, Nat.reduceAdd, Nat.reduceLT, Nat.reduceMul, Nat.reduceLeDiff, Nat.lt_irrefl, Int.reduceToNat, Int.reduceLT, Int.reduceLE, ha0, on_atB hl0, lt_add hl0, lt_at hl0, Option.getD_some]; rfl) (by simp (disch := (apply Apart.mk; decide)) only [go_sem, Nat.reduceAdd, Nat.reduceLT, Nat.reduceMul, Nat.reduceLeDiff, Nat.lt_irrefl, Int.reduceToNat, Int.reduceLT, Int.reduceLE, ha0, on_atB hl0, lt_add hl0, lt_at hl0, Option.getD_some]; rfl) ?c_eF1 ?d_eF1 ?_
    case c_eF1 => (refine darray_Array_has_runs a_ s (l0) ?_ eF1; (simp (disch := (apply Apart.mk; decide)) only [go_sem, Nat.reduceAdd, Nat.reduceLT, Nat.reduceMul, Nat.reduceLeDiff, Nat.lt_irrefl, Int.reduceToNat, Int.reduceLT, Int.reduceLE, ha0, on_atB hl0, lt_add hl0, lt_at hl0]))
    case d_eF1 => rfl
    refine w_upto 1 rfl (by simp (disch := (apply Apart.mk; decide)) only [go_sem, Nat.reduceAdd, Nat.reduceLT, Nat.reduceMul, Nat.reduceLeDiff, Nat.lt_irrefl, Int.reduceToNat, Int.reduceLT, Int.reduceLE, ha0, on_atB hl0, lt_add hl0, lt_at hl0]; rfl) ?_
    rcases hr.ite with ⟨cF2, hr⟩ | ⟨cF2, hr⟩
    · obtain ⟨b, nF3, eF4, gF5, hr⟩ := hr.idx
      refine w_ops_end (by simp (disch := (apply Apart.mk; decide)) only [go_sem, Nat.reduceAdd, Nat.reduceLT, Nat.reduceMul, Nat.reduceLeDiff, Nat.lt_irrefl, Int.reduceToNat, Int.reduceLT, Int.reduceLE, ha0, on_atB hl0, lt_add hl0, lt_at hl0, cF2, nF3, eF4, gF5]; rfl) ?_
      obtain rfl : _ = v := hr
      exact w_k (To.cut hwf (Nat.le_refl _) (by first | rfl | (simp (disch := (apply Apart.mk; decide)) only [go_sem, Nat.reduceAdd, Nat.reduceLT, Nat.reduceMul, Nat.reduceLeDiff, Nat.lt_irrefl, Int.reduceToNat, Int.reduceLT, Int.reduceLE, ha0, on_atB hl0, lt_add hl0, lt_at hl0, cF2]; rfl)) (by simp (disch := (apply Apart.mk; decide)) only [go_sem, Nat.reduceAdd, Nat.reduceLT, Nat.reduceMul, Nat.reduceLeDiff, Nat.lt_irrefl, Int.reduceToNat, Int.reduceLT, Int.reduceLE, ha0, on_atB hl0, lt_add hl0, lt_at hl0, cF2]))
    · refine w_ops_end (by simp (disch := (apply Apart.mk; decide)) only [go_sem, Nat.reduceAdd, Nat.reduceLT, Nat.reduceMul, Nat.reduceLeDiff, Nat.lt_irrefl, Int.reduceToNat, Int.reduceLT, Int.reduceLE, ha0, on_atB hl0, lt_add hl0, lt_at hl0, cF2]; rfl) ?_
      obtain rfl : _ = v := hr
      exact w_k (To.cut hwf (Nat.le_refl _) (by first | rfl | (simp (disch := (apply Apart.mk; decide)) only [go_sem, Nat.reduceAdd, Nat.reduceLT, Nat.reduceMul, Nat.reduceLeDiff, Nat.lt_irrefl, Int.reduceToNat, Int.reduceLT, Int.reduceLE, ha0, on_atB hl0, lt_add hl0, lt_at hl0, cF2]; rfl)) (by simp (disch := (apply Apart.mk; decide)) only [go_sem, Nat.reduceAdd, Nat.reduceLT, Nat.reduceMul, Nat.reduceLeDiff, Nat.lt_irrefl, Int.reduceToNat, Int.reduceLT, Int.reduceLE, ha0, on_atB hl0, lt_add hl0, lt_at hl0, cF2]))
  refine w_ret ?_
  obtain rfl := hD _ hr
  exact (w_endR (To.cut (os' := []) (sl := [(4, .cv (.val (.bool v)))]) hwf (Nat.le_refl _) (by first | rfl | (simp (disch := (apply Apart.mk; decide)) only [go_sem, Nat.reduceAdd, Nat.reduceLT, Nat.reduceMul, Nat.reduceLeDiff, Nat.lt_irrefl, Int.reduceToNat, Int.reduceLT, Int.reduceLE, ha0, on_atB hl0, lt_add hl0, lt_at hl0]; rfl)) (by simp (disch := (apply Apart.mk; decide)) only [go_sem, Nat.reduceAdd, Nat.reduceLT, Nat.reduceMul, Nat.reduceLeDiff, Nat.lt_irrefl, Int.reduceToNat, Int.reduceLT, Int.reduceLE, ha0, on_atB hl0, lt_add hl0, lt_at hl0])) (by simp (disch := (apply Apart.mk; decide)) only [go_sem, Nat.reduceAdd, Nat.reduceLT, Nat.reduceMul, Nat.reduceLeDiff, Nat.lt_irrefl, Int.reduceToNat, Int.reduceLT, Int.reduceLE, ha0, on_atB hl0, lt_add hl0, lt_at hl0, Try.results29, results_data CT_gives29, resCell, resVal.eq_2, loadOp_sv]) ⟨rfl, on_nil hwf⟩)
end Go.Val

/- part GW46 -/
/- (*scansion/darray.Array).Prefixes runs as it is read off. -/
namespace Go.Val
set_option linter.unusedVariables false
set_option linter.unusedSimpArgs false
set_option maxRecDepth 20000
open Go.Proofs
theorem darray_Array_Prefixes_runs (a_ : Tdarray_Array) (b : List UInt8) (l0 : Nat) {h : Heap} (ha0 : h.at_ l0 = some (.cells [.val (.sl (List.map eB a_.graph.Final)), .val (.sl (List.map (eL eEdge) a_.graph.Edges)), .row 3 (List.map eI a_.base), .row 91 (List.map edarray_cell a_.cells), .val (.sl (List.map eI a_.count))])) {a : List Int} (e : darray_Array_Prefixes a_ b = some a) :
    Runs CT 46 [.cv (.val (.ptr (some (l0, 0)))), .cv (.val (.sl (List.map eU b)))] h fun o h' => o = [.cv (.val (.sl (List.map eI a)))] ∧ h' = h := by
  refine Runs.start Try.f46 _ Try.func46 rfl (by rw [Try.ntmps46]; simp) (by rfl) (by rfl) (fun hwf hu => ?_)
  have hl0 := (hwf _ _ ha0).1
  obtain ⟨D, hD, hr⟩ : ∃ D : List Int → Prop, (∀ z, D z → z = a) ∧ Holds (darray_Array_Prefixes a_ b) D := ⟨fun z => z = a, fun _ h => h, Holds.intro e rfl⟩
  dsimp only [darray_Array_Prefixes] at hr
  change wpCode _ _ _ _ _ ⟨[(0, .cv (.val (.ptr (some (l0, 0))))), (1, .cv (.val (.sl (List.map eU b))))], h.on []⟩
  refine w_seq ?_
  refine w_region rfl (by simp (disch := (apply Apart.mk; decide)) only [go_sem, Nat.reduceAdd, Nat.reduceLT, Nat.reduceMul, Nat.reduceLeDiff, Nat.lt_irrefl, Int.reduceToNat, Int.reduceLT, Int.reduceLE, ha0, on_atB hl0, lt_add hl0, lt_at hl0]; rfl) ?_
  refine (w_n ?_)
  refine w_seq ?_
  refine w_region rfl (by simp (disch := (apply Apart.mk; decide)) only [go_sem, Nat.reduceAdd, Nat.reduceLT, Nat.reduceMul, Nat.reduceLeDiff, Nat.lt_irrefl, Int.reduceToNat, Int.reduceLT, Int.reduceLE, ha0, on_atB hl0, lt_add hl0, lt_at hl0]; rfl) ?_
  refine (w_n ?_)
  refine w_seq ?_
  refine w_ops rfl ?_
  refine w_upto 1 rfl (by simp (disch := (apply Apart.mk; decide)) only [go_sem, Nat.reduceAdd, Nat.reduceLT, Nat.reduceMul, Nat.reduceLeDiff, Nat.lt_irrefl, Int.reduceToNat, Int.reduceLT, Int.reduceLE, ha0, on_atB hl0, lt_add hl0, lt_at hl0]; rfl) ?_
  obtain ⟨r, eF1, hr⟩ := hr.bind
  refine w_call' (out := ?o_eF1) (hp := ?p_eF1) rfl (by simp (disch := (apply Apart.mk; decide)) only [go_sem, Nat.reduceAdd, Nat.reduceLT, Nat.reduceMul, Nat.reduceLeDiff, Nat.lt_irrefl, Int.reduceToNat, Int.reduceLT, Int.reduceLE, ha0, on_atB hl0, lt_add hl0, lt_at hl0, Option.getD_some]; rfl) (by simp (disch := (apply Apart.mk; decide)) only [go_sem, Nat.reduceAdd, Nat.reduceLT, Nat.reduceMul, Nat.reduceLeDiff, Nat.lt_irrefl, Int.reduceToNat, Int.reduceLT, Int.reduceLE, ha0, on_atB hl0, lt_add hl0, lt_at hl0, Option.getD_some]; rfl) (by simp (disch := (apply Apart.mk; decide)) only [go_sem, Nat.reduceAdd, Nat.reduceLT, Nat.reduceMul, Nat.reduceLeDiff, Nat.lt_irrefl, Int.reduceToNat, Int.reduceLT, Int.reduceLE, ha0, on_atB hl0, lt_add hl0, lt_at hl0, Option.getD_some]; rfl) ?c_eF1 ?d_eF1 ?_
  case c_eF1 => (refine darray_Array_Start_runs a_ (l0) ?_ eF1; (simp (disch := (apply Apart.mk; decide)) only [go_sem, Nat.reduceAdd, Nat.reduceLT, Nat.reduceMul, Nat.reduceLeDiff, Nat.lt_irrefl, Int.reduceToNat, Int.reduceLT, Int.reduceLE, ha0, on_atB hl0, lt_add hl0, lt_at hl0]))
  case d_eF1 => rfl
  refine w_ops_end (by simp (disch := (apply Apart.mk; decide)) only [go_sem, Nat.reduceAdd, Nat.reduceLT, Nat.reduceMul, Nat.reduceLeDiff, Nat.lt_irrefl, Int.reduceToNat, Int.reduceLT, Int.reduceLE, ha0, on_atB hl0, lt_add hl0, lt_at hl0]; rfl) ?_
  refine (w_n ?_)
  refine w_seq ?_
  refine w_seq ?_
  refine w_region rfl (by simp (disch := (apply Apart.mk; decide)) only [go_sem, Nat.reduceAdd, Nat.reduceLT, Nat.reduceMul, Nat.reduceLeDiff, Nat.lt_irrefl, Int.reduceToNat, Int.reduceLT, Int.reduceLE, ha0, on_atB hl0, lt_add hl0, lt_at hl0]; rfl) ?_
  refine (w_n ?_)
  refine w_K (D := D) (fun xX : List Int => ⟨[(5, .cv (.row 3 (List.map eI xX)))], h.on []⟩) (fun xX : List Int => darray_Array_Prefixes.k1 xX) (fun xX s' hr ht => ?_) ?_
  · obtain ⟨out, rfl⟩ : ∃ z, z = xX := ⟨xX, rfl⟩
    dsimp only [darray_Array_Prefixes.k1] at hr ht
    refine (w_nT ht ?_)
    refine w_seq ?_
    refine w_region rfl (by simp (disch := (apply Apart.mk; decide)) only [go_sem, Nat.reduceAdd, Nat.reduceLT, Nat.reduceMul, Nat.reduceLeDiff, Nat.lt_irrefl, Int.reduceToNat, Int.reduceLT, Int.reduceLE, ha0, on_atB hl0, lt_add hl0, lt_at hl0]; rfl) ?_
    refine (w_n ?_)
    refine w_ret ?_
    obtain rfl := hD _ hr
    exact (w_endR (.fix _ _ (.slot 4) 3 _ (by simp (disch := (apply Apart.mk; decide)) only [go_sem, Nat.reduceAdd, Nat.reduceLT, Nat.reduceMul, Nat.reduceLeDiff, Nat.lt_irrefl, Int.reduceToNat, Int.reduceLT, Int.reduceLE, ha0, on_atB hl0, lt_add hl0, lt_at hl0]; rfl) (To.cut (os' := []) (sl := [(4, .cv (.val (.sl (List.map eI out))))]) hwf (Nat.le_refl _) (by first | rfl | (simp (disch := (apply Apart.mk; decide)) only [go_sem, Nat.reduceAdd, Nat.reduceLT, Nat.reduceMul, Nat.reduceLeDiff, Nat.lt_irrefl, Int.reduceToNat, Int.reduceLT, Int.reduceLE, ha0, on_atB hl0, lt_add hl0, lt_at hl0]; rfl)) (by simp (disch := (apply Apart.mk; decide)) only [go_sem, Nat.reduceAdd, Nat.reduceLT, Nat.reduceMul, Nat.reduceLeDiff, Nat.lt_irrefl, Int.reduceToNat, Int.reduceLT, Int.reduceLE, ha0, on_atB hl0, lt_add hl0, lt_at hl0]))) (by simp (disch := (apply Apart.mk; decide)) only [go_sem, Nat.reduceAdd, Nat.reduceLT, Nat.reduceMul, Nat.reduceLeDiff, Nat.lt_irrefl, Int.reduceToNat, Int.reduceLT, Int.reduceLE, ha0, on_atB hl0, lt_add hl0, lt_at hl0, Try.results46, results_data CT_gives46, resCell, resVal.eq_2, loadOp_sv]) ⟨rfl, on_nil hwf⟩)
  · refine w_block ?_
    refine w_Loop (fun xX : (List Int × Int × Bool × Int) => ⟨[(0, .cv (.val (.ptr (some (l0, 0))))), (1, .cv (.val (.sl (List.map eU b)))), (5, .cv (.row 3 (List.map eI xX.1))), (6, .cv (.val (.int .i64 xX.2.1))), (7, .cv (.val (.bool xX.2.2.1))), (8, .cv (.val (.int .i64 xX.2.2.2)))], h.on []⟩) hr (To.cut hwf (Nat.le_refl _) (by first | rfl | (simp (disch := (apply Apart.mk; decide)) only [go_sem, Nat.reduceAdd, Nat.reduceLT, Nat.reduceMul, Nat.reduceLeDiff, Nat.lt_irrefl, Int.reduceToNat, Int.reduceLT, Int.reduceLE, ha0, on_atB hl0, lt_add hl0, lt_at hl0]; rfl)) (by simp (disch := (apply Apart.mk; decide)) only [go_sem, Nat.reduceAdd, Nat.reduceLT, Nat.reduceMul, Nat.reduceLeDiff, Nat.lt_irrefl, Int.reduceToNat, Int.reduceLT, Int.reduceLE, ha0, on_atB hl0, lt_add hl0, lt_at hl0])) (fun W1 xX hr => ?_)
    obtain ⟨out1, s, is, n⟩ := xX
    dsimp only [darray_Array_Prefixes.b1] at hr
    refine w_seq ?_
    refine w_seq ?_
    refine w_region rfl (by simp (disch := (apply Apart.mk; decide)) only [go_sem, Nat.reduceAdd, Nat.reduceLT, Nat.reduceMul, Nat.reduceLeDiff, Nat.lt_irrefl, Int.reduceToNat, Int.reduceLT, Int.reduceLE, ha0, on_atB hl0, lt_add hl0, lt_at hl0]; rfl) ?_
    refine (w_n ?_)
    refine w_condH (by simp (disch := (apply Apart.mk; decide)) only [go_sem, Nat.reduceAdd, Nat.reduceLT, Nat.reduceMul, Nat.reduceLeDiff, Nat.lt_irrefl, Int.reduceToNat, Int.reduceLT, Int.reduceLE, ha0, on_atB hl0, lt_add hl0, lt_at hl0]) hr (fun cF2 hr => ?_) (fun cF2 hr => ?_)
    · refine w_skip ?_
      refine (w_n ?_)
      refine w_seq ?_
      refine w_block ?_
      refine w_seq ?_
      refine w_seq ?_
      refine w_ops rfl ?_
      refine w_upto 2 rfl (by simp (disch := (apply Apart.mk; decide)) only [go_sem, Nat.reduceAdd, Nat.reduceLT, Nat.reduceMul, Nat.reduceLeDiff, Nat.lt_irrefl, Int.reduceToNat, Int.reduceLT, Int.reduceLE, ha0, on_atB hl0, lt_add hl0, lt_at hl0]; rfl) ?_
      obtain ⟨r1, eF3, hr⟩ := hr.bind
      refine w_call' (out := ?o_eF3) (hp := ?p_eF3) rfl (by simp (disch := (apply Apart.mk; decide)) only [go_sem, Nat.reduceAdd, Nat.reduceLT, Nat.reduceMul, Nat.reduceLeDiff, Nat.lt_irrefl, Int.reduceToNat, Int.reduceLT, Int.reduceLE, ha0, on_atB hl0, lt_add hl0, lt_at hl0, Option.getD_some]; rfl) (by simp (disch := (apply Apart.mk; decide)) only [go_sem, Nat.reduceAdd, Nat.reduceLT, Nat.reduceMul, Nat.reduceLeDiff, Nat.lt_irrefl, Int.reduceToNat, Int.reduceLT, Int.reduceLE, ha0, on_atB hl0, lt_add hl0, lt_at hl0, Option.getD_some]; rfl) (by simp (disch := (apply Apart.mk; decide)) only [go_sem, Nat.reduceAdd, Nat.reduceLT, Nat.reduceMul, Nat.reduceLeDiff, Nat.lt_irrefl, Int.reduceToNat, Int.reduceLT, Int.reduceLE, ha0, on_atB hl0, lt_add hl0, lt_at hl0, Option.getD_some]; rfl) ?c_eF3 ?d_eF3 ?_
      case c_eF3 => (refine darray_Array_Final_runs a_ s (l0) ?_ eF3; (simp (disch := (apply Apart.mk; decide)) only [go_sem, Nat.reduceAdd, Nat.reduceLT, Nat.reduceMul, Nat.reduceLeDiff, Nat.lt_irrefl, Int.reduceToNat, Int.reduceLT, Int.reduceLE, ha0, on_atB hl0, lt_add hl0, lt_at hl0]))
      case d_eF3 => rfl
      refine w_ops_nil ?_
      refine (w_n ?_)
      refine w_K (D := (Aft W1 D)) (fun xX : List Int => ⟨[(0, .cv (.val (.ptr (some (l0, 0))))), (1, .cv (.val (.sl (List.map eU b)))), (5, .cv (.row 3 (List.map eI xX))), (6, .cv (.val (.int .i64 s))), (8, .cv (.val (.int .i64 n)))], h.on []⟩) (fun xX : List Int => darray_Array_Prefixes.k2 a_ b s n xX) (fun xX s' hr ht => ?_) ?_
      · obtain ⟨out2, rfl⟩ : ∃ z, z = xX := ⟨xX, rfl⟩
        dsimp only [darray_Array_Prefixes.k2] at hr ht
        refine (w_nT ht ?_)
        refine w_seq ?_
        refine w_seq ?_
        refine w_region rfl (by simp (disch := (apply Apart.mk; decide)) only [go_sem, Nat.reduceAdd, Nat.reduceLT, Nat.reduceMul, Nat.reduceLeDiff, Nat.lt_irrefl, Int.reduceToNat, Int.reduceLT, Int.reduceLE, ha0, on_atB hl0, lt_add hl0, lt_at hl0, cF2]; rfl) ?_
        refine (w_n ?_)
        refine w_condH (by simp (disch := (apply Apart.mk; decide)) only [go_sem, Nat.reduceAdd, Nat.reduceLT, Nat.reduceMul, Nat.reduceLeDiff, Nat.lt_irrefl, Int.reduceToNat, Int.reduceLT, Int.reduceLE, ha0, on_atB hl0, lt_add hl0, lt_at hl0, cF2]) hr (fun cF4 hr => ?_) (fun cF4 hr => ?_)
        · refine w_exit ?_
          exact (w_te (w_bo (w_te (w_te (w_bx (w_k ⟨out2, (hr).map, (To.cut hwf (Nat.le_refl _) (by first | rfl | (simp (disch := (apply Apart.mk; decide)) only [go_sem, Nat.reduceAdd, Nat.reduceLT, Nat.reduceMul, Nat.reduceLeDiff, Nat.lt_irrefl, Int.reduceToNat, Int.reduceLT, Int.reduceLE, ha0, on_atB hl0, lt_add hl0, lt_at hl0, cF2, cF4]; rfl)) (by simp (disch := (apply Apart.mk; decide)) only [go_sem, Nat.reduceAdd, Nat.reduceLT, Nat.reduceMul, Nat.reduceLeDiff, Nat.lt_irrefl, Int.reduceToNat, Int.reduceLT, Int.reduceLE, ha0, on_atB hl0, lt_add hl0, lt_at hl0, cF2, cF4]))⟩)))) rfl))
        · refine w_skip ?_
          refine (w_n ?_)
          refine w_ops rfl ?_
          obtain ⟨n1, nF5, eF6, gF7, hr⟩ := hr.idx
          refine w_upto 6 rfl (by simp (disch := (apply Apart.mk; decide)) only [go_sem, Nat.reduceAdd, Nat.reduceLT, Nat.reduceMul, Nat.reduceLeDiff, Nat.lt_irrefl, Int.reduceToNat, Int.reduceLT, Int.reduceLE, ha0, on_atB hl0, lt_add hl0, lt_at hl0, nF5, eF6, gF7]; rfl) ?_
          obtain ⟨r2, eF8, hr⟩ := hr.bind
          refine w_call' (out := ?o_eF8) (hp := ?p_eF8) rfl (by simp (disch := (apply Apart.mk; decide)) only [go_sem, Nat.reduceAdd, Nat.reduceLT, Nat.reduceMul, Nat.reduceLeDiff, Nat.lt_irrefl, Int.reduceToNat, Int.reduceLT, Int.reduceLE, ha0, on_atB hl0, lt_add hl0, lt_at hl0, Option.getD_some, nF5, eF6, gF7]; rfl) (by simp (disch := (apply Apart.mk; decide)) only [go_sem, Nat.reduceAdd, Nat.reduceLT, Nat.reduceMul, Nat.reduceLeDiff, Nat.lt_irrefl, Int.reduceToNat, Int.reduceLT, Int.reduceLE, ha0, on_atB hl0, lt_add hl0, lt_at hl0, Option.getD_some, nF5, eF6, gF7]; rfl) (by simp (disch := (apply Apart.mk; decide)) only [go_sem, Nat.reduceAdd, Nat.reduceLT, Nat.reduceMul, Nat.reduceLeDiff, Nat.lt_irrefl, Int.reduceToNat, Int.reduceLT, Int.reduceLE, ha0, on_atB hl0, lt_add hl0, lt_at hl0, Option.getD_some, nF5, eF6, gF7]; rfl) ?c_eF8 ?d_eF8 ?_
          case c_eF8 => (refine darray_Array_Step_runs a_ s n1 (l0) ?_ eF8; (simp (disch := (apply Apart.mk; decide)) only [go_sem, Nat.reduceAdd, Nat.reduceLT, Nat.reduceMul, Nat.reduceLeDiff, Nat.lt_irrefl, Int.reduceToNat, Int.reduceLT, Int.reduceLE, ha0, on_atB hl0, lt_add hl0, lt_at hl0]))
          case d_eF8 => rfl
          refine w_ops_end (by simp (disch := (apply Apart.mk; decide)) only [go_sem, Nat.reduceAdd, Nat.reduceLT, Nat.reduceMul, Nat.reduceLeDiff, Nat.lt_irrefl, Int.reduceToNat, Int.reduceLT, Int.reduceLE, ha0, on_atB hl0, lt_add hl0, lt_at hl0, nF5, eF6, gF7]; rfl) ?_
          refine (w_bn (w_n ?_))
          refine w_region rfl (by simp (disch := (apply Apart.mk; decide)) only [go_sem, Nat.reduceAdd, Nat.reduceLT, Nat.reduceMul, Nat.reduceLeDiff, Nat.lt_irrefl, Int.reduceToNat, Int.reduceLT, Int.reduceLE, ha0, on_atB hl0, lt_add hl0, lt_at hl0, cF2, cF4]; rfl) ?_
          exact (w_k ⟨(out2, r2.1, r2.2, (IntKind.i64.wrap (n + (1 : Int)))), hr, (To.cut hwf (Nat.le_refl _) (by first | rfl | (simp (disch := (apply Apart.mk; decide)) only [go_sem, Nat.reduceAdd, Nat.reduceLT, Nat.reduceMul, Nat.reduceLeDiff, Nat.lt_irrefl, Int.reduceToNat, Int.reduceLT, Int.reduceLE, ha0, on_atB hl0, lt_add hl0, lt_at hl0, cF2, cF4]; rfl)) (by simp (disch := (apply Apart.mk; decide)) only [go_sem, Nat.reduceAdd, Nat.reduceLT, Nat.reduceMul, Nat.reduceLeDiff, Nat.lt_irrefl, Int.reduceToNat, Int.reduceLT, Int.reduceLE, ha0, on_atB hl0, lt_add hl0, lt_at hl0, cF2, cF4]))⟩)
      · refine w_condH (by simp (disch := (apply Apart.mk; decide)) only [go_sem, Nat.reduceAdd, Nat.reduceLT, Nat.reduceMul, Nat.reduceLeDiff, Nat.lt_irrefl, Int.reduceToNat, Int.reduceLT, Int.reduceLE, ha0, on_atB hl0, lt_add hl0, lt_at hl0, cF2]) hr (fun cF9 hr => ?_) (fun cF9 hr => ?_)
        · obtain ⟨nF10, hr⟩ := hr.room
          refine w_region rfl (by simp (disch := (apply Apart.mk; decide)) only [go_sem, Nat.reduceAdd, Nat.reduceLT, Nat.reduceMul, Nat.reduceLeDiff, Nat.lt_irrefl, Int.reduceToNat, Int.reduceLT, Int.reduceLE, ha0, on_atB hl0, lt_add hl0, lt_at hl0, nF10, cF2, cF9]; rfl) ?_
          exact (w_k ⟨(out1 ++ ([n])), hr, (To.cut hwf (Nat.le_refl _) (by first | rfl | (simp (disch := (apply Apart.mk; decide)) only [go_sem, Nat.reduceAdd, Nat.reduceLT, Nat.reduceMul, Nat.reduceLeDiff, Nat.lt_irrefl, Int.reduceToNat, Int.reduceLT, Int.reduceLE, ha0, on_atB hl0, lt_add hl0, lt_at hl0, cF2, cF9]; rfl)) (by simp (disch := (apply Apart.mk; decide)) only [go_sem, Nat.reduceAdd, Nat.reduceLT, Nat.reduceMul, Nat.reduceLeDiff, Nat.lt_irrefl, Int.reduceToNat, Int.reduceLT, Int.reduceLE, ha0, on_atB hl0, lt_add hl0, lt_at hl0, cF2, cF9]))⟩)
        · refine w_skip ?_
          exact (w_k ⟨out1, hr, (To.cut hwf (Nat.le_refl _) (by first | rfl | (simp (disch := (apply Apart.mk; decide)) only [go_sem, Nat.reduceAdd, Nat.reduceLT, Nat.reduceMul, Nat.reduceLeDiff, Nat.lt_irrefl, Int.reduceToNat, Int.reduceLT, Int.reduceLE, ha0, on_atB hl0, lt_add hl0, lt_at hl0, cF2, cF9]; rfl)) (by simp (disch := (apply Apart.mk; decide)) only [go_sem, Nat.reduceAdd, Nat.reduceLT, Nat.reduceMul, Nat.reduceLeDiff, Nat.lt_irrefl, Int.reduceToNat, Int.reduceLT, Int.reduceLE, ha0, on_atB hl0, lt_add hl0, lt_at hl0, cF2, cF9]))⟩)
    · refine w_exit ?_
      exact (w_te (w_te (w_bx (w_k ⟨out1, (hr).map, (To.cut hwf (Nat.le_refl _) (by first | rfl | (simp (disch := (apply Apart.mk; decide)) only [go_sem, Nat.reduceAdd, Nat.reduceLT, Nat.reduceMul, Nat.reduceLeDiff, Nat.lt_irrefl, Int.reduceToNat, Int.reduceLT, Int.reduceLE, ha0, on_atB hl0, lt_add hl0, lt_at hl0, cF2]; rfl)) (by simp (disch := (apply Apart.mk; decide)) only [go_sem, Nat.reduceAdd, Nat.reduceLT, Nat.reduceMul, Nat.reduceLeDiff, Nat.lt_irrefl, Int.reduceToNat, Int.reduceLT, Int.reduceLE, ha0, on_atB hl0, lt_add hl0, lt_at hl0, cF2]))⟩))))
end Go.Val

/- part GW21 -/
/- scansion/scansionlaw18.awake runs as it is read off. -/
namespace Go.Val
set_option linter.unusedVariables false
set_option linter.unusedSimpArgs false
set_option maxRecDepth 20000
open Go.Proofs
theorem scansionlaw18_awake_runs {h : Heap} {a : Bool} (e : scansionlaw18_awake = some a) :
    Runs CT 21 [] h fun o h' => o = [.cv (.val (.bool a))] ∧ h' = h := by
  refine Runs.start Try.f21 _ Try.func21 rfl (by rw [Try.ntmps21]; simp) (by rfl) (by rfl) (fun hwf hu => ?_)
  obtain ⟨D, hD, hr⟩ : ∃ D : Bool → Prop, (∀ z, D z → z = a) ∧ Holds (scansionlaw18_awake) D := ⟨fun z => z = a, fun _ h => h, Holds.intro e rfl⟩
  dsimp only [scansionlaw18_awake] at hr
  change wpCode _ _ _ _ _ ⟨[], h.on []⟩
  refine w_seq ?_
  refine w_region rfl (by simp (disch := (apply Apart.mk; decide)) only [go_sem, Nat.reduceAdd, Nat.reduceLT, Nat.reduceMul, Nat.reduceLeDiff, Nat.lt_irrefl, Int.reduceToNat, Int.reduceLT, Int.reduceLE]; rfl) ?_
  refine (w_n ?_)
  refine w_seq ?_
  refine w_ops rfl ?_
  refine w_upto 1 rfl (by simp (disch := (apply Apart.mk; decide)) only [go_sem, Nat.reduceAdd, Nat.reduceLT, Nat.reduceMul, Nat.reduceLeDiff, Nat.lt_irrefl, Int.reduceToNat, Int.reduceLT, Int.reduceLE]; rfl) ?_
  obtain ⟨r, eF1, hr⟩ := hr.bind
  refine w_call' (out := ?o_eF1) (hp := ?p_eF1) rfl (by simp (disch := (apply Apart.mk; decide)) only [go_sem, Nat.reduceAdd, Nat.reduceLT, Nat.reduceMul, Nat.reduceLeDiff, Nat.lt_irrefl, Int.reduceToNat, Int.reduceLT, Int.reduceLE, Option.getD_some]; rfl) (by simp (disch := (apply Apart.mk; decide)) only [go_sem, Nat.reduceAdd, Nat.reduceLT, Nat.reduceMul, Nat.reduceLeDiff, Nat.lt_irrefl, Int.reduceToNat, Int.reduceLT, Int.reduceLE, Option.getD_some]; rfl) (by simp (disch := (apply Apart.mk; decide)) only [go_sem, Nat.reduceAdd, Nat.reduceLT, Nat.reduceMul, Nat.reduceLeDiff, Nat.lt_irrefl, Int.reduceToNat, Int.reduceLT, Int.reduceLE, Option.getD_some]; rfl) ?c_eF1 ?d_eF1 ?_
  case c_eF1 => exact scansionref17_Build_runs ([([97, 98] : Str), ([99, 98] : Str)]) eF1
  case d_eF1 => rfl
  refine w_ops_end (by simp (disch := (apply Apart.mk; decide)) only [go_sem, Nat.reduceAdd, Nat.reduceLT, Nat.reduceMul, Nat.reduceLeDiff, Nat.lt_irrefl, Int.reduceToNat, Int.reduceLT, Int.reduceLE]; rfl) ?_
  refine (w_n ?_)
  refine w_seq ?_
  refine w_ops rfl ?_
  refine w_upto 1 rfl (by simp (disch := (apply Apart.mk; decide)) only [go_sem, Nat.reduceAdd, Nat.reduceLT, Nat.reduceMul, Nat.reduceLeDiff, Nat.lt_irrefl, Int.reduceToNat, Int.reduceLT, Int.reduceLE]; rfl) ?_
  obtain ⟨r1, eF2, hr⟩ := hr.bind
  try dsimp only at hr
  rcases xF12 : r1.1 with _ | y
  · rw [xF12] at hr
    dsimp only at hr
    refine w_call' (out := ?o_eF2a) (hp := ?p_eF2a) rfl (by simp (disch := (apply Apart.mk; decide)) only [go_sem, Nat.reduceAdd, Nat.reduceLT, Nat.reduceMul, Nat.reduceLeDiff, Nat.lt_irrefl, Int.reduceToNat, Int.reduceLT, Int.reduceLE, Option.getD_some]; rfl) (by simp (disch := (apply Apart.mk; decide)) only [go_sem, Nat.reduceAdd, Nat.reduceLT, Nat.reduceMul, Nat.reduceLeDiff, Nat.lt_irrefl, Int.reduceToNat, Int.reduceLT, Int.reduceLE, Option.getD_some]; rfl) (by simp (disch := (apply Apart.mk; decide)) only [go_sem, Nat.reduceAdd, Nat.reduceLT, Nat.reduceMul, Nat.reduceLeDiff, Nat.lt_irrefl, Int.reduceToNat, Int.reduceLT, Int.reduceLE, Option.getD_some]; rfl) ?c_eF2a ?d_eF2a ?_
    case c_eF2a => exact darray_Pack_runs_none r.1 eF2 xF12
    case d_eF2a => rfl
    refine w_ops_end (by simp (disch := (apply Apart.mk; decide)) only [go_sem, Nat.reduceAdd, Nat.reduceLT, Nat.reduceMul, Nat.reduceLeDiff, Nat.lt_irrefl, Int.reduceToNat, Int.reduceLT, Int.reduceLE]; rfl) ?_
    refine (w_n ?_)
    refine w_joinR (sj := ⟨[(0, .cv (.val (.bool false)))], h.on []⟩) (w_ops rfl ?_) ?_
    · refine w_upto 3 rfl (by simp (disch := (apply Apart.mk; decide)) only [go_sem, Nat.reduceAdd, Nat.reduceLT, Nat.reduceMul, Nat.reduceLeDiff, Nat.lt_irrefl, Int.reduceToNat, Int.reduceLT, Int.reduceLE]; rfl) ?_
      rcases Bool.eq_false_or_eq_true (r1.2 == (0 : Int)) with cF3 | cF3
      · refine w_upto 5 rfl (by simp (disch := (apply Apart.mk; decide)) only [go_sem, Nat.reduceAdd, Nat.reduceLT, Nat.reduceMul, Nat.reduceLeDiff, Nat.lt_irrefl, Int.reduceToNat, Int.reduceLT, Int.reduceLE, cF3]; rfl) ?_
        refine w_off (by simp (disch := (apply Apart.mk; decide)) only [go_sem, Nat.reduceAdd, Nat.reduceLT, Nat.reduceMul, Nat.reduceLeDiff, Nat.lt_irrefl, Int.reduceToNat, Int.reduceLT, Int.reduceLE, cF3]) ?_
        refine w_upto 4 rfl (by simp (disch := (apply Apart.mk; decide)) only [go_sem, Nat.reduceAdd, Nat.reduceLT, Nat.reduceMul, Nat.reduceLeDiff, Nat.lt_irrefl, Int.reduceToNat, Int.reduceLT, Int.reduceLE, cF3]; rfl) ?_
        refine w_off (by simp (disch := (apply Apart.mk; decide)) only [go_sem, Nat.reduceAdd, Nat.reduceLT, Nat.reduceMul, Nat.reduceLeDiff, Nat.lt_irrefl, Int.reduceToNat, Int.reduceLT, Int.reduceLE, cF3]) ?_
        refine w_upto 6 rfl (by simp (disch := (apply Apart.mk; decide)) only [go_sem, Nat.reduceAdd, Nat.reduceLT, Nat.reduceMul, Nat.reduceLeDiff, Nat.lt_irrefl, Int.reduceToNat, Int.reduceLT, Int.reduceLE, cF3]; rfl) ?_
        refine w_off (by simp (disch := (apply Apart.mk; decide)) only [go_sem, Nat.reduceAdd, Nat.reduceLT, Nat.reduceMul, Nat.reduceLeDiff, Nat.lt_irrefl, Int.reduceToNat, Int.reduceLT, Int.reduceLE, cF3]) ?_
        refine w_upto 1 rfl (by simp (disch := (apply Apart.mk; decide)) only [go_sem, Nat.reduceAdd, Nat.reduceLT, Nat.reduceMul, Nat.reduceLeDiff, Nat.lt_irrefl, Int.reduceToNat, Int.reduceLT, Int.reduceLE, cF3]; rfl) ?_
        refine w_off (by simp (disch := (apply Apart.mk; decide)) only [go_sem, Nat.reduceAdd, Nat.reduceLT, Nat.reduceMul, Nat.reduceLeDiff, Nat.lt_irrefl, Int.reduceToNat, Int.reduceLT, Int.reduceLE, cF3]) ?_
        refine w_ops_end (by simp (disch := (apply Apart.mk; decide)) only [go_sem, Nat.reduceAdd, Nat.reduceLT, Nat.reduceMul, Nat.reduceLeDiff, Nat.lt_irrefl, Int.reduceToNat, Int.reduceLT, Int.reduceLE, cF3]; rfl) ?_
        exact w_k (To.cut hwf (Nat.le_refl _) rfl (by simp (disch := (apply Apart.mk; decide)) only [go_sem, Nat.reduceAdd, Nat.reduceLT, Nat.reduceMul, Nat.reduceLeDiff, Nat.lt_irrefl, Int.reduceToNat, Int.reduceLT, Int.reduceLE, cF3]))
      · refine w_upto 5 rfl (by simp (disch := (apply Apart.mk; decide)) only [go_sem, Nat.reduceAdd, Nat.reduceLT, Nat.reduceMul, Nat.reduceLeDiff, Nat.lt_irrefl, Int.reduceToNat, Int.reduceLT, Int.reduceLE, cF3]; rfl) ?_
        refine w_off (by simp (disch := (apply Apart.mk; decide)) only [go_sem, Nat.reduceAdd, Nat.reduceLT, Nat.reduceMul, Nat.reduceLeDiff, Nat.lt_irrefl, Int.reduceToNat, Int.reduceLT, Int.reduceLE, cF3]) ?_
        refine w_upto 4 rfl (by simp (disch := (apply Apart.mk; decide)) only [go_sem, Nat.reduceAdd, Nat.reduceLT, Nat.reduceMul, Nat.reduceLeDiff, Nat.lt_irrefl, Int.reduceToNat, Int.reduceLT, Int.reduceLE, cF3]; rfl) ?_
        refine w_off (by simp (disch := (apply Apart.mk; decide)) only [go_sem, Nat.reduceAdd, Nat.reduceLT, Nat.reduceMul, Nat.reduceLeDiff, Nat.lt_irrefl, Int.reduceToNat, Int.reduceLT, Int.reduceLE, cF3]) ?_
        refine w_upto 6 rfl (by simp (disch := (apply Apart.mk; decide)) only [go_sem, Nat.reduceAdd, Nat.reduceLT, Nat.reduceMul, Nat.reduceLeDiff, Nat.lt_irrefl, Int.reduceToNat, Int.reduceLT, Int.reduceLE, cF3]; rfl) ?_
        refine w_off (by simp (disch := (apply Apart.mk; decide)) only [go_sem, Nat.reduceAdd, Nat.reduceLT, Nat.reduceMul, Nat.reduceLeDiff, Nat.lt_irrefl, Int.reduceToNat, Int.reduceLT, Int.reduceLE, cF3]) ?_
        refine w_upto 1 rfl (by simp (disch := (apply Apart.mk; decide)) only [go_sem, Nat.reduceAdd, Nat.reduceLT, Nat.reduceMul, Nat.reduceLeDiff, Nat.lt_irrefl, Int.reduceToNat, Int.reduceLT, Int.reduceLE, cF3]; rfl) ?_
        refine w_off (by simp (disch := (apply Apart.mk; decide)) only [go_sem, Nat.reduceAdd, Nat.reduceLT, Nat.reduceMul, Nat.reduceLeDiff, Nat.lt_irrefl, Int.reduceToNat, Int.reduceLT, Int.reduceLE, cF3]) ?_
        refine w_ops_end (by simp (disch := (apply Apart.mk; decide)) only [go_sem, Nat.reduceAdd, Nat.reduceLT, Nat.reduceMul, Nat.reduceLeDiff, Nat.lt_irrefl, Int.reduceToNat, Int.reduceLT, Int.reduceLE, cF3]; rfl) ?_
        exact w_k (To.cut hwf (Nat.le_refl _) rfl (by simp (disch := (apply Apart.mk; decide)) only [go_sem, Nat.reduceAdd, Nat.reduceLT, Nat.reduceMul, Nat.reduceLeDiff, Nat.lt_irrefl, Int.reduceToNat, Int.reduceLT, Int.reduceLE, cF3]))
    refine w_ret ?_
    obtain rfl := hD _ hr
    exact (w_endR (To.cut (os' := []) (sl := [(0, .cv (.val (.bool false)))]) hwf (Nat.le_refl _) rfl (by simp (disch := (apply Apart.mk; decide)) only [go_sem, Nat.reduceAdd, Nat.reduceLT, Nat.reduceMul, Nat.reduceLeDiff, Nat.lt_irrefl, Int.reduceToNat, Int.reduceLT, Int.reduceLE])) (by simp (disch := (apply Apart.mk; decide)) only [go_sem, Nat.reduceAdd, Nat.reduceLT, Nat.reduceMul, Nat.reduceLeDiff, Nat.lt_irrefl, Int.reduceToNat, Int.reduceLT, Int.reduceLE, Try.results21, results_data CT_gives21, resCell, resVal.eq_2, loadOp_sv]) ⟨rfl, on_nil hwf⟩)
  · rw [xF12] at hr
    dsimp only at hr
    refine w_call' (out := ?o_eF2b) (hp := ?p_eF2b) rfl (by simp (disch := (apply Apart.mk; decide)) only [go_sem, Nat.reduceAdd, Nat.reduceLT, Nat.reduceMul, Nat.reduceLeDiff, Nat.lt_irrefl, Int.reduceToNat, Int.reduceLT, Int.reduceLE, Option.getD_some]; rfl) (by simp (disch := (apply Apart.mk; decide)) only [go_sem, Nat.reduceAdd, Nat.reduceLT, Nat.reduceMul, Nat.reduceLeDiff, Nat.lt_irrefl, Int.reduceToNat, Int.reduceLT, Int.reduceLE, Option.getD_some]; rfl) (by simp (disch := (apply Apart.mk; decide)) only [go_sem, Nat.reduceAdd, Nat.reduceLT, Nat.reduceMul, Nat.reduceLeDiff, Nat.lt_irrefl, Int.reduceToNat, Int.reduceLT, Int.reduceLE, Option.getD_some]; rfl) ?c_eF2b ?d_eF2b ?_
    case c_eF2b => exact darray_Pack_runs_some r.1 eF2 xF12
    case d_eF2b => rfl
    refine w_ops_end (by simp (disch := (apply Apart.mk; decide)) only [go_sem, Nat.reduceAdd, Nat.reduceLT, Nat.reduceMul, Nat.reduceLeDiff, Nat.lt_irrefl, Int.reduceToNat, Int.reduceLT, Int.reduceLE]; rfl) ?_
    refine (w_n ?_)
    obtain ⟨v, vF11, hr⟩ := hr.bind
    refine w_joinR (sj := ⟨[(0, .cv (.val (.bool v)))], h.on []⟩) (w_ops rfl ?_) ?_
    · have hr := Holds.intro (D := fun z => z = v) vF11 rfl
      refine w_upto 3 rfl (by simp (disch := (apply Apart.mk; decide)) only [go_sem, Nat.reduceAdd, Nat.reduceLT, Nat.reduceMul, Nat.reduceLeDiff, Nat.lt_irrefl, Int.reduceToNat, Int.reduceLT, Int.reduceLE]; rfl) ?_
      rcases hr.ite with ⟨cF4, hr⟩ | ⟨cF4, hr⟩
      · refine w_upto 5 rfl (by simp (disch := (apply Apart.mk; decide)) only [go_sem, Nat.reduceAdd, Nat.reduceLT, Nat.reduceMul, Nat.reduceLeDiff, Nat.lt_irrefl, Int.reduceToNat, Int.reduceLT, Int.reduceLE, cF4]; rfl) ?_
        obtain ⟨r2, eF5, hr⟩ := hr.bind
        refine w_call' (out := ?o_eF5) (hp := ?p_eF5) (by simp (disch := (apply Apart.mk; decide)) only [go_sem, Nat.reduceAdd, Nat.reduceLT, Nat.reduceMul, Nat.reduceLeDiff, Nat.lt_irrefl, Int.reduceToNat, Int.reduceLT, Int.reduceLE, Option.getD_some, cF4]) (by simp (disch := (apply Apart.mk; decide)) only [go_sem, Nat.reduceAdd, Nat.reduceLT, Nat.reduceMul, Nat.reduceLeDiff, Nat.lt_irrefl, Int.reduceToNat, Int.reduceLT, Int.reduceLE, Option.getD_some, cF4]; rfl) (by simp (disch := (apply Apart.mk; decide)) only [go_sem, Nat.reduceAdd, Nat.reduceLT, Nat.reduceMul, Nat.reduceLeDiff, Nat.lt_irrefl, Int.reduceToNat, Int.reduceLT, Int.reduceLE, Option.getD_some, cF4]; rfl) (by simp (disch := (apply Apart.mk; decide)) only [go_sem, Nat.reduceAdd, Nat.reduceLT, Nat.reduceMul, Nat.reduceLeDiff, Nat.lt_irrefl, Int.reduceToNat, Int.reduceLT, Int.reduceLE, Option.getD_some, cF4]; rfl) ?c_eF5 ?d_eF5 ?_
        case c_eF5 => (refine darray_Array_Start_runs y (h.n + 2) ?_ eF5; (simp (disch := (apply Apart.mk; decide)) only [go_sem, Nat.reduceAdd, Nat.reduceLT, Nat.reduceMul, Nat.reduceLeDiff, Nat.lt_irrefl, Int.reduceToNat, Int.reduceLT, Int.reduceLE]))
        case d_eF5 => rfl
        refine w_upto 3 rfl (by simp (disch := (apply Apart.mk; decide)) only [go_sem, Nat.reduceAdd, Nat.reduceLT, Nat.reduceMul, Nat.reduceLeDiff, Nat.lt_irrefl, Int.reduceToNat, Int.reduceLT, Int.reduceLE, cF4]; rfl) ?_
        rcases hr.ite with ⟨cF6, hr⟩ | ⟨cF6, hr⟩
        · refine w_upto 1 rfl (by simp (disch := (apply Apart.mk; decide)) only [go_sem, Nat.reduceAdd, Nat.reduceLT, Nat.reduceMul, Nat.reduceLeDiff, Nat.lt_irrefl, Int.reduceToNat, Int.reduceLT, Int.reduceLE, cF4, cF6]; rfl) ?_
          obtain ⟨r3, eF7, hr⟩ := hr.bind
          refine w_call' (out := ?o_eF7) (hp := ?p_eF7) (by simp (disch := (apply Apart.mk; decide)) only [go_sem, Nat.reduceAdd, Nat.reduceLT, Nat.reduceMul, Nat.reduceLeDiff, Nat.lt_irrefl, Int.reduceToNat, Int.reduceLT, Int.reduceLE, Option.getD_some, cF4, cF6]) (by simp (disch := (apply Apart.mk; decide)) only [go_sem, Nat.reduceAdd, Nat.reduceLT, Nat.reduceMul, Nat.reduceLeDiff, Nat.lt_irrefl, Int.reduceToNat, Int.reduceLT, Int.reduceLE, Option.getD_some, cF4, cF6]; rfl) (by simp (disch := (apply Apart.mk; decide)) only [go_sem, Nat.reduceAdd, Nat.reduceLT, Nat.reduceMul, Nat.reduceLeDiff, Nat.lt_irrefl, Int.reduceToNat, Int.reduceLT, Int.reduceLE, Option.getD_some, cF4, cF6]; rfl) (by simp (disch := (apply Apart.mk; decide)) only [go_sem, Nat.reduceAdd, Nat.reduceLT, Nat.reduceMul, Nat.reduceLeDiff, Nat.lt_irrefl, Int.reduceToNat, Int.reduceLT, Int.reduceLE, Option.getD_some, cF4, cF6]; rfl) ?c_eF7 ?d_eF7 ?_
          case c_eF7 => (refine darray_Array_Words_runs y (h.n + 2) ?_ eF7; (simp (disch := (apply Apart.mk; decide)) only [go_sem, Nat.reduceAdd, Nat.reduceLT, Nat.reduceMul, Nat.reduceLeDiff, Nat.lt_irrefl, Int.reduceToNat, Int.reduceLT, Int.reduceLE]))
          case d_eF7 => rfl
          refine w_upto 3 rfl (by simp (disch := (apply Apart.mk; decide)) only [go_sem, Nat.reduceAdd, Nat.reduceLT, Nat.reduceMul, Nat.reduceLeDiff, Nat.lt_irrefl, Int.reduceToNat, Int.reduceLT, Int.reduceLE, cF4, cF6]; rfl) ?_
          rcases hr.ite with ⟨cF8, hr⟩ | ⟨cF8, hr⟩
          · refine w_upto 3 rfl (by simp (disch := (apply Apart.mk; decide)) only [go_sem, Nat.reduceAdd, Nat.reduceLT, Nat.reduceMul, Nat.reduceLeDiff, Nat.lt_irrefl, Int.reduceToNat, Int.reduceLT, Int.reduceLE, cF4, cF6, cF8]; rfl) ?_
            obtain ⟨r4, eF9, hr⟩ := hr.bind
            refine w_call' (out := ?o_eF9) (hp := ?p_eF9) (by simp (disch := (apply Apart.mk; decide)) only [go_sem, Nat.reduceAdd, Nat.reduceLT, Nat.reduceMul, Nat.reduceLeDiff, Nat.lt_irrefl, Int.reduceToNat, Int.reduceLT, Int.reduceLE, Option.getD_some, cF4, cF6, cF8]) (by simp (disch := (apply Apart.mk; decide)) only [go_sem, Nat.reduceAdd, Nat.reduceLT, Nat.reduceMul, Nat.reduceLeDiff, Nat.lt_irrefl, Int.reduceToNat, Int.reduceLT, Int.reduceLE, Option.getD_some, cF4, cF6, cF8]; rfl) (by simp (disch := (apply Apart.mk; decide)) only [go_sem, Nat.reduceAdd, Nat.reduceLT, Nat.reduceMul, Nat.reduceLeDiff, Nat.lt_irrefl, Int.reduceToNat, Int.reduceLT, Int.reduceLE, Option.getD_some, cF4, cF6, cF8]; rfl) (by simp (disch := (apply Apart.mk; decide)) only [go_sem, Nat.reduceAdd, Nat.reduceLT, Nat.reduceMul, Nat.reduceLeDiff, Nat.lt_irrefl, Int.reduceToNat, Int.reduceLT, Int.reduceLE, Option.getD_some, cF4, cF6, cF8]; rfl) ?c_eF9 ?d_eF9 ?_
            case c_eF9 => (refine darray_Array_Prefixes_runs y ([(u8 (97 : Int)), (u8 (98 : Int)), (u8 (99 : Int))]) (h.n + 2) ?_ eF9; (simp (disch := (apply Apart.mk; decide)) only [go_sem, Nat.reduceAdd, Nat.reduceLT, Nat.reduceMul, Nat.reduceLeDiff, Nat.lt_irrefl, Int.reduceToNat, Int.reduceLT, Int.reduceLE]))
            case d_eF9 => rfl
            refine w_upto 1 rfl (by simp (disch := (apply Apart.mk; decide)) only [go_sem, Nat.reduceAdd, Nat.reduceLT, Nat.reduceMul, Nat.reduceLeDiff, Nat.lt_irrefl, Int.reduceToNat, Int.reduceLT, Int.reduceLE, cF4, cF6, cF8]; rfl) ?_
            obtain ⟨r5, eF10, hr⟩ := hr.bind
            refine w_call' (out := ?o_eF10) (hp := ?p_eF10) (by simp (disch := (apply Apart.mk; decide)) only [go_sem, Nat.reduceAdd, Nat.reduceLT, Nat.reduceMul, Nat.reduceLeDiff, Nat.lt_irrefl, Int.reduceToNat, Int.reduceLT, Int.reduceLE, Option.getD_some, cF4, cF6, cF8]) (by simp (disch := (apply Apart.mk; decide)) only [go_sem, Nat.reduceAdd, Nat.reduceLT, Nat.reduceMul, Nat.reduceLeDiff, Nat.lt_irrefl, Int.reduceToNat, Int.reduceLT, Int.reduceLE, Option.getD_some, cF4, cF6, cF8]; rfl) (by simp (disch := (apply Apart.mk; decide)) only [go_sem, Nat.reduceAdd, Nat.reduceLT, Nat.reduceMul, Nat.reduceLeDiff, Nat.lt_irrefl, Int.reduceToNat, Int.reduceLT, Int.reduceLE, Option.getD_some, cF4, cF6, cF8]; rfl) (by simp (disch := (apply Apart.mk; decide)) only [go_sem, Nat.reduceAdd, Nat.reduceLT, Nat.reduceMul, Nat.reduceLeDiff, Nat.lt_irrefl, Int.reduceToNat, Int.reduceLT, Int.reduceLE, Option.getD_some, cF4, cF6, cF8]; rfl) ?c_eF10 ?d_eF10 ?_
            case c_eF10 => exact scansionref01_SameInts_runs r4 ([(2 : Int)]) eF10
            case d_eF10 => rfl
            refine w_ops_end (by simp (disch := (apply Apart.mk; decide)) only [go_sem, Nat.reduceAdd, Nat.reduceLT, Nat.reduceMul, Nat.reduceLeDiff, Nat.lt_irrefl, Int.reduceToNat, Int.reduceLT, Int.reduceLE, cF4, cF6, cF8]; rfl) ?_
            obtain rfl : _ = v := hr
            exact w_k (To.cut hwf (Nat.le_refl _) rfl (by simp (disch := (apply Apart.mk; decide)) only [go_sem, Nat.reduceAdd, Nat.reduceLT, Nat.reduceMul, Nat.reduceLeDiff, Nat.lt_irrefl, Int.reduceToNat, Int.reduceLT, Int.reduceLE, cF4, cF6, cF8]))
          · refine w_upto 3 rfl (by simp (disch := (apply Apart.mk; decide)) only [go_sem, Nat.reduceAdd, Nat.reduceLT, Nat.reduceMul, Nat.reduceLeDiff, Nat.lt_irrefl, Int.reduceToNat, Int.reduceLT, Int.reduceLE, cF4, cF6, cF8]; rfl) ?_
            refine w_off (by simp (disch := (apply Apart.mk; decide)) only [go_sem, Nat.reduceAdd, Nat.reduceLT, Nat.reduceMul, Nat.reduceLeDiff, Nat.lt_irrefl, Int.reduceToNat, Int.reduceLT, Int.reduceLE, cF4, cF6, cF8]) ?_
            refine w_upto 1 rfl (by simp (disch := (apply Apart.mk; decide)) only [go_sem, Nat.reduceAdd, Nat.reduceLT, Nat.reduceMul, Nat.reduceLeDiff, Nat.lt_irrefl, Int.reduceToNat, Int.reduceLT, Int.reduceLE, cF4, cF6, cF8]; rfl) ?_
            refine w_off (by simp (disch := (apply Apart.mk; decide)) only [go_sem, Nat.reduceAdd, Nat.reduceLT, Nat.reduceMul, Nat.reduceLeDiff, Nat.lt_irrefl, Int.reduceToNat, Int.reduceLT, Int.reduceLE, cF4, cF6, cF8]) ?_
            refine w_ops_end (by simp (disch := (apply Apart.mk; decide)) only [go_sem, Nat.reduceAdd, Nat.reduceLT, Nat.reduceMul, Nat.reduceLeDiff, Nat.lt_irrefl, Int.reduceToNat, Int.reduceLT, Int.reduceLE, cF4, cF6, cF8]; rfl) ?_
            obtain rfl : _ = v := hr
            exact w_k (To.cut hwf (Nat.le_refl _) rfl (by simp (disch := (apply Apart.mk; decide)) only [go_sem, Nat.reduceAdd, Nat.reduceLT, Nat.reduceMul, Nat.reduceLeDiff, Nat.lt_irrefl, Int.reduceToNat, Int.reduceLT, Int.reduceLE, cF4, cF6, cF8]))
        · refine w_upto 1 rfl (by simp (disch := (apply Apart.mk; decide)) only [go_sem, Nat.reduceAdd, Nat.reduceLT, Nat.reduceMul, Nat.reduceLeDiff, Nat.lt_irrefl, Int.reduceToNat, Int.reduceLT, Int.reduceLE, cF4, cF6]; rfl) ?_
          refine w_off (by simp (disch := (apply Apart.mk; decide)) only [go_sem, Nat.reduceAdd, Nat.reduceLT, Nat.reduceMul, Nat.reduceLeDiff, Nat.lt_irrefl, Int.reduceToNat, Int.reduceLT, Int.reduceLE, cF4, cF6]) ?_
          refine w_upto 6 rfl (by simp (disch := (apply Apart.mk; decide)) only [go_sem, Nat.reduceAdd, Nat.reduceLT, Nat.reduceMul, Nat.reduceLeDiff, Nat.lt_irrefl, Int.reduceToNat, Int.reduceLT, Int.reduceLE, cF4, cF6]; rfl) ?_
          refine w_off (by simp (disch := (apply Apart.mk; decide)) only [go_sem, Nat.reduceAdd, Nat.reduceLT, Nat.reduceMul, Nat.reduceLeDiff, Nat.lt_irrefl, Int.reduceToNat, Int.reduceLT, Int.reduceLE, cF4, cF6]) ?_
          refine w_upto 1 rfl (by simp (disch := (apply Apart.mk; decide)) only [go_sem, Nat.reduceAdd, Nat.reduceLT, Nat.reduceMul, Nat.reduceLeDiff, Nat.lt_irrefl, Int.reduceToNat, Int.reduceLT, Int.reduceLE, cF4, cF6]; rfl) ?_
          refine w_off (by simp (disch := (apply Apart.mk; decide)) only [go_sem, Nat.reduceAdd, Nat.reduceLT, Nat.reduceMul, Nat.reduceLeDiff, Nat.lt_irrefl, Int.reduceToNat, Int.reduceLT, Int.reduceLE, cF4, cF6]) ?_
          refine w_ops_end (by simp (disch := (apply Apart.mk; decide)) only [go_sem, Nat.reduceAdd, Nat.reduceLT, Nat.reduceMul, Nat.reduceLeDiff, Nat.lt_irrefl, Int.reduceToNat, Int.reduceLT, Int.reduceLE, cF4, cF6]; rfl) ?_
          obtain rfl : _ = v := hr
          exact w_k (To.cut hwf (Nat.le_refl _) rfl (by simp (disch := (apply Apart.mk; decide)) only [go_sem, Nat.reduceAdd, Nat.reduceLT, Nat.reduceMul, Nat.reduceLeDiff, Nat.lt_irrefl, Int.reduceToNat, Int.reduceLT, Int.reduceLE, cF4, cF6]))
      · refine w_upto 5 rfl (by simp (disch := (apply Apart.mk; decide)) only [go_sem, Nat.reduceAdd, Nat.reduceLT, Nat.reduceMul, Nat.reduceLeDiff, Nat.lt_irrefl, Int.reduceToNat, Int.reduceLT, Int.reduceLE, cF4]; rfl) ?_
        refine w_off (by simp (disch := (apply Apart.mk; decide)) only [go_sem, Nat.reduceAdd, Nat.reduceLT, Nat.reduceMul, Nat.reduceLeDiff, Nat.lt_irrefl, Int.reduceToNat, Int.reduceLT, Int.reduceLE, cF4]) ?_
        refine w_upto 4 rfl (by simp (disch := (apply Apart.mk; decide)) only [go_sem, Nat.reduceAdd, Nat.reduceLT, Nat.reduceMul, Nat.reduceLeDiff, Nat.lt_irrefl, Int.reduceToNat, Int.reduceLT, Int.reduceLE, cF4]; rfl) ?_
        refine w_off (by simp (disch := (apply Apart.mk; decide)) only [go_sem, Nat.reduceAdd, Nat.reduceLT, Nat.reduceMul, Nat.reduceLeDiff, Nat.lt_irrefl, Int.reduceToNat, Int.reduceLT, Int.reduceLE, cF4]) ?_
        refine w_upto 6 rfl (by simp (disch := (apply Apart.mk; decide)) only [go_sem, Nat.reduceAdd, Nat.reduceLT, Nat.reduceMul, Nat.reduceLeDiff, Nat.lt_irrefl, Int.reduceToNat, Int.reduceLT, Int.reduceLE, cF4]; rfl) ?_
        refine w_off (by simp (disch := (apply Apart.mk; decide)) only [go_sem, Nat.reduceAdd, Nat.reduceLT, Nat.reduceMul, Nat.reduceLeDiff, Nat.lt_irrefl, Int.reduceToNat, Int.reduceLT, Int.reduceLE, cF4]) ?_
        refine w_upto 1 rfl (by simp (disch := (apply Apart.mk; decide)) only [go_sem, Nat.reduceAdd, Nat.reduceLT, Nat.reduceMul, Nat.reduceLeDiff, Nat.lt_irrefl, Int.reduceToNat, Int.reduceLT, Int.reduceLE, cF4]; rfl) ?_
        refine w_off (by simp (disch := (apply Apart.mk; decide)) only [go_sem, Nat.reduceAdd, Nat.reduceLT, Nat.reduceMul, Nat.reduceLeDiff, Nat.lt_irrefl, Int.reduceToNat, Int.reduceLT, Int.reduceLE, cF4]) ?_
        refine w_ops_end (by simp (disch := (apply Apart.mk; decide)) only [go_sem, Nat.reduceAdd, Nat.reduceLT, Nat.reduceMul, Nat.reduceLeDiff, Nat.lt_irrefl, Int.reduceToNat, Int.reduceLT, Int.reduceLE, cF4]; rfl) ?_
        obtain rfl : _ = v := hr
        exact w_k (To.cut hwf (Nat.le_refl _) rfl (by simp (disch := (apply Apart.mk; decide)) only [go_sem, Nat.reduceAdd, Nat.reduceLT, Nat.reduceMul, Nat.reduceLeDiff, Nat.lt_irrefl, Int.reduceToNat, Int.reduceLT, Int.reduceLE, cF4]))
    refine w_ret ?_
    obtain rfl := hD _ hr
    exact (w_endR (To.cut (os' := []) (sl := [(0, .cv (.val (.bool v)))]) hwf (Nat.le_refl _) rfl (by simp (disch := (apply Apart.mk; decide)) only [go_sem, Nat.reduceAdd, Nat.reduceLT, Nat.reduceMul, Nat.reduceLeDiff, Nat.lt_irrefl, Int.reduceToNat, Int.reduceLT, Int.reduceLE])) (by simp (disch := (apply Apart.mk; decide)) only [go_sem, Nat.reduceAdd, Nat.reduceLT, Nat.reduceMul, Nat.reduceLeDiff, Nat.lt_irrefl, Int.reduceToNat, Int.reduceLT, Int.reduceLE, Try.results21, results_data CT_gives21, resCell, resVal.eq_2, loadOp_sv]) ⟨rfl, on_nil hwf⟩)
end Go.Val

/- part GW6 -/
/- scansion/scansionlaw18.DarrayTight runs as it is read off. -/
namespace Go.Val
set_option linter.unusedVariables false
set_option linter.unusedSimpArgs false
set_option maxRecDepth 20000
open Go.Proofs
theorem scansionlaw18_DarrayTight_runs (g : TGraph) {h : Heap} {a : Bool} (e : scansionlaw18_DarrayTight g = some a) :
    Runs CT 6 [.cv (.val (.agg [.sl (List.map eB g.Final), .sl (List.map (eL eEdge) g.Edges)]))] h fun o h' => o = [.cv (.val (.bool a))] ∧ h' = h := by
  refine Runs.start Try.f6 _ Try.func6 rfl (by rw [Try.ntmps6]; simp) (by rfl) (by rfl) (fun hwf hu => ?_)
  obtain ⟨D, hD, hr⟩ : ∃ D : Bool → Prop, (∀ z, D z → z = a) ∧ Holds (scansionlaw18_DarrayTight g) D := ⟨fun z => z = a, fun _ h => h, Holds.intro e rfl⟩
  dsimp only [scansionlaw18_DarrayTight] at hr
  change wpCode _ _ _ _ _ ⟨[(0, .cv (.val (.agg [.sl (List.map eB g.Final), .sl (List.map (eL eEdge) g.Edges)])))], h.on []⟩
  refine w_seq ?_
  refine w_region rfl (by simp (disch := (apply Apart.mk; decide)) only [go_sem, Nat.reduceAdd, Nat.reduceLT, Nat.reduceMul, Nat.reduceLeDiff, Nat.lt_irrefl, Int.reduceToNat, Int.reduceLT, Int.reduceLE]; rfl) ?_
  refine (w_n ?_)
  refine w_seq ?_
  refine w_ops rfl ?_
  obtain ⟨r, eF1, hr⟩ := hr.bind
  refine w_call' (out := ?o_eF1) (hp := ?p_eF1) rfl (by simp (disch := (apply Apart.mk; decide)) only [go_sem, Nat.reduceAdd, Nat.reduceLT, Nat.reduceMul, Nat.reduceLeDiff, Nat.lt_irrefl, Int.reduceToNat, Int.reduceLT, Int.reduceLE, Option.getD_some]; rfl) (by simp (disch := (apply Apart.mk; decide)) only [go_sem, Nat.reduceAdd, Nat.reduceLT, Nat.reduceMul, Nat.reduceLeDiff, Nat.lt_irrefl, Int.reduceToNat, Int.reduceLT, Int.reduceLE, Option.getD_some]; rfl) (by simp (disch := (apply Apart.mk; decide)) only [go_sem, Nat.reduceAdd, Nat.reduceLT, Nat.reduceMul, Nat.reduceLeDiff, Nat.lt_irrefl, Int.reduceToNat, Int.reduceLT, Int.reduceLE, Option.getD_some]; rfl) ?c_eF1 ?d_eF1 ?_
  case c_eF1 => exact scansionlaw18_awake_runs  eF1
  case d_eF1 => rfl
  refine w_ops_end (by simp (disch := (apply Apart.mk; decide)) only [go_sem, Nat.reduceAdd, Nat.reduceLT, Nat.reduceMul, Nat.reduceLeDiff, Nat.lt_irrefl, Int.reduceToNat, Int.reduceLT, Int.reduceLE]; rfl) ?_
  refine (w_n ?_)
  refine w_seq ?_
  refine w_ops rfl ?_
  refine w_upto 1 rfl (by simp (disch := (apply Apart.mk; decide)) only [go_sem, Nat.reduceAdd, Nat.reduceLT, Nat.reduceMul, Nat.reduceLeDiff, Nat.lt_irrefl, Int.reduceToNat, Int.reduceLT, Int.reduceLE]; rfl) ?_
  obtain ⟨r1, eF2, hr⟩ := hr.bind
  refine w_call' (out := ?o_eF2) (hp := ?p_eF2) rfl (by simp (disch := (apply Apart.mk; decide)) only [go_sem, Nat.reduceAdd, Nat.reduceLT, Nat.reduceMul, Nat.reduceLeDiff, Nat.lt_irrefl, Int.reduceToNat, Int.reduceLT, Int.reduceLE, Option.getD_some]; rfl) (by simp (disch := (apply Apart.mk; decide)) only [go_sem, Nat.reduceAdd, Nat.reduceLT, Nat.reduceMul, Nat.reduceLeDiff, Nat.lt_irrefl, Int.reduceToNat, Int.reduceLT, Int.reduceLE, Option.getD_some]; rfl) (by simp (disch := (apply Apart.mk; decide)) only [go_sem, Nat.reduceAdd, Nat.reduceLT, Nat.reduceMul, Nat.reduceLeDiff, Nat.lt_irrefl, Int.reduceToNat, Int.reduceLT, Int.reduceLE, Option.getD_some]; rfl) ?c_eF2 ?d_eF2 ?_
  case c_eF2 => exact scansionref17_Few_runs g (60 : Int) eF2
  case d_eF2 => rfl
  refine w_ops_end (by simp (disch := (apply Apart.mk; decide)) only [go_sem, Nat.reduceAdd, Nat.reduceLT, Nat.reduceMul, Nat.reduceLeDiff, Nat.lt_irrefl, Int.reduceToNat, Int.reduceLT, Int.reduceLE]; rfl) ?_
  refine (w_n ?_)
  refine w_seq ?_
  refine w_joinR (sj := ⟨[(1, .cv (.val (.ptr (some (h.n + 0, 0))))), (3, .cv (.val (.bool r))), (22, .cv (.val (.bool ((!r) || (!r1)))))], h.on [some (.cells [.val (.sl (List.map eB g.Final)), .val (.sl (List.map (eL eEdge) g.Edges))])]⟩) (w_ops rfl ?_) ?_
  · refine w_upto 3 rfl (by simp (disch := (apply Apart.mk; decide)) only [go_sem, Nat.reduceAdd, Nat.reduceLT, Nat.reduceMul, Nat.reduceLeDiff, Nat.lt_irrefl, Int.reduceToNat, Int.reduceLT, Int.reduceLE]; rfl) ?_
    rcases Bool.eq_false_or_eq_true (!r) with cF3 | cF3
    · refine w_ops_end (by simp (disch := (apply Apart.mk; decide)) only [go_sem, Nat.reduceAdd, Nat.reduceLT, Nat.reduceMul, Nat.reduceLeDiff, Nat.lt_irrefl, Int.reduceToNat, Int.reduceLT, Int.reduceLE, cF3]; rfl) ?_
      exact w_k (To.cut hwf (Nat.le_refl _) rfl (by simp (disch := (apply Apart.mk; decide)) only [go_sem, Nat.reduceAdd, Nat.reduceLT, Nat.reduceMul, Nat.reduceLeDiff, Nat.lt_irrefl, Int.reduceToNat, Int.reduceLT, Int.reduceLE, cF3]))
    · refine w_ops_end (by simp (disch := (apply Apart.mk; decide)) only [go_sem, Nat.reduceAdd, Nat.reduceLT, Nat.reduceMul, Nat.reduceLeDiff, Nat.lt_irrefl, Int.reduceToNat, Int.reduceLT, Int.reduceLE, cF3]; rfl) ?_
      exact w_k (To.cut hwf (Nat.le_refl _) rfl (by simp (disch := (apply Apart.mk; decide)) only [go_sem, Nat.reduceAdd, Nat.reduceLT, Nat.reduceMul, Nat.reduceLeDiff, Nat.lt_irrefl, Int.reduceToNat, Int.reduceLT, Int.reduceLE, cF3]))
  refine w_condH (by simp (disch := (apply Apart.mk; decide)) only [go_sem, Nat.reduceAdd, Nat.reduceLT, Nat.reduceMul, Nat.reduceLeDiff, Nat.lt_irrefl, Int.reduceToNat, Int.reduceLT, Int.reduceLE]) hr (fun cF4 hr => ?_) (fun cF4 hr => ?_)
  · refine w_seq ?_
    refine w_region rfl (by simp (disch := (apply Apart.mk; decide)) only [go_sem, Nat.reduceAdd, Nat.reduceLT, Nat.reduceMul, Nat.reduceLeDiff, Nat.lt_irrefl, Int.reduceToNat, Int.reduceLT, Int.reduceLE, cF4]; rfl) ?_
    refine (w_n ?_)
    refine w_ret ?_
    obtain rfl := hD _ hr
    exact (w_tr (w_endR (To.cut (os' := []) (sl := [(2, .cv (.val (.bool r)))]) hwf (Nat.le_refl _) rfl (by simp (disch := (apply Apart.mk; decide)) only [go_sem, Nat.reduceAdd, Nat.reduceLT, Nat.reduceMul, Nat.reduceLeDiff, Nat.lt_irrefl, Int.reduceToNat, Int.reduceLT, Int.reduceLE, cF4])) (by simp (disch := (apply Apart.mk; decide)) only [go_sem, Nat.reduceAdd, Nat.reduceLT, Nat.reduceMul, Nat.reduceLeDiff, Nat.lt_irrefl, Int.reduceToNat, Int.reduceLT, Int.reduceLE, Try.results6, results_data CT_gives6, resCell, resVal.eq_2, loadOp_sv, cF4]) ⟨rfl, on_nil hwf⟩))
  · refine w_skip ?_
    refine (w_n ?_)
    refine w_seq ?_
    refine w_ops rfl ?_
    refine w_upto 1 rfl (by simp (disch := (apply Apart.mk; decide)) only [go_sem, Nat.reduceAdd, Nat.reduceLT, Nat.reduceMul, Nat.reduceLeDiff, Nat.lt_irrefl, Int.reduceToNat, Int.reduceLT, Int.reduceLE]; rfl) ?_
    obtain ⟨r2, eF5, hr⟩ := hr.bind
    try dsimp only at hr
    rcases xF29 : r2.1 with _ | y
    · rw [xF29] at hr
      dsimp only at hr
      refine w_call' (out := ?o_eF5a) (hp := ?p_eF5a) rfl (by simp (disch := (apply Apart.mk; decide)) only [go_sem, Nat.reduceAdd, Nat.reduceLT, Nat.reduceMul, Nat.reduceLeDiff, Nat.lt_irrefl, Int.reduceToNat, Int.reduceLT, Int.reduceLE, Option.getD_some]; rfl) (by simp (disch := (apply Apart.mk; decide)) only [go_sem, Nat.reduceAdd, Nat.reduceLT, Nat.reduceMul, Nat.reduceLeDiff, Nat.lt_irrefl, Int.reduceToNat, Int.reduceLT, Int.reduceLE, Option.getD_some]; rfl) (by simp (disch := (apply Apart.mk; decide)) only [go_sem, Nat.reduceAdd, Nat.reduceLT, Nat.reduceMul, Nat.reduceLeDiff, Nat.lt_irrefl, Int.reduceToNat, Int.reduceLT, Int.reduceLE, Option.getD_some]; rfl) ?c_eF5a ?d_eF5a ?_
      case c_eF5a => exact darray_Pack_runs_none g eF5 xF29
      case d_eF5a => rfl
      refine w_ops_end (by simp (disch := (apply Apart.mk; decide)) only [go_sem, Nat.reduceAdd, Nat.reduceLT, Nat.reduceMul, Nat.reduceLeDiff, Nat.lt_irrefl, Int.reduceToNat, Int.reduceLT, Int.reduceLE]; rfl) ?_
      refine (w_n ?_)
      refine w_seq ?_
      refine w_joinR (sj := ⟨[(1, .cv (.val (.ptr (some (h.n + 0, 0))))), (5, .cv (.val (.ptr none))), (6, .cv (.val (.int .i64 r2.2))), (34, .cv (.val (.bool true)))], h.on [some (.cells [.val (.sl (List.map eB g.Final)), .val (.sl (List.map (eL eEdge) g.Edges))])]⟩) (w_ops rfl ?_) ?_
      · refine w_upto 3 rfl (by simp (disch := (apply Apart.mk; decide)) only [go_sem, Nat.reduceAdd, Nat.reduceLT, Nat.reduceMul, Nat.reduceLeDiff, Nat.lt_irrefl, Int.reduceToNat, Int.reduceLT, Int.reduceLE]; rfl) ?_
        rcases Bool.eq_false_or_eq_true (r2.2 != (0 : Int)) with cF6 | cF6
        · refine w_ops_end (by simp (disch := (apply Apart.mk; decide)) only [go_sem, Nat.reduceAdd, Nat.reduceLT, Nat.reduceMul, Nat.reduceLeDiff, Nat.lt_irrefl, Int.reduceToNat, Int.reduceLT, Int.reduceLE, cF6]; rfl) ?_
          exact w_k (To.cut hwf (Nat.le_refl _) rfl (by simp (disch := (apply Apart.mk; decide)) only [go_sem, Nat.reduceAdd, Nat.reduceLT, Nat.reduceMul, Nat.reduceLeDiff, Nat.lt_irrefl, Int.reduceToNat, Int.reduceLT, Int.reduceLE, cF4, cF6]))
        · refine w_ops_end (by simp (disch := (apply Apart.mk; decide)) only [go_sem, Nat.reduceAdd, Nat.reduceLT, Nat.reduceMul, Nat.reduceLeDiff, Nat.lt_irrefl, Int.reduceToNat, Int.reduceLT, Int.reduceLE, cF6]; rfl) ?_
          exact w_k (To.cut hwf (Nat.le_refl _) rfl (by simp (disch := (apply Apart.mk; decide)) only [go_sem, Nat.reduceAdd, Nat.reduceLT, Nat.reduceMul, Nat.reduceLeDiff, Nat.lt_irrefl, Int.reduceToNat, Int.reduceLT, Int.reduceLE, cF4, cF6]))
      refine w_cond (t := true) (by simp (disch := (apply Apart.mk; decide)) only [go_sem, Nat.reduceAdd, Nat.reduceLT, Nat.reduceMul, Nat.reduceLeDiff, Nat.lt_irrefl, Int.reduceToNat, Int.reduceLT, Int.reduceLE, cF4]) (fun _ => ?_) (fun cF7 => by cases cF7)
      refine w_seq ?_
      refine w_region rfl (by simp (disch := (apply Apart.mk; decide)) only [go_sem, Nat.reduceAdd, Nat.reduceLT, Nat.reduceMul, Nat.reduceLeDiff, Nat.lt_irrefl, Int.reduceToNat, Int.reduceLT, Int.reduceLE, cF4]; rfl) ?_
      refine (w_n ?_)
      refine w_ret ?_
      obtain rfl := hD _ hr
      exact (w_tr (w_endR (To.cut (os' := []) (sl := [(2, .cv (.val (.bool (r2.2 == (1 : Int)))))]) hwf (Nat.le_refl _) rfl (by simp (disch := (apply Apart.mk; decide)) only [go_sem, Nat.reduceAdd, Nat.reduceLT, Nat.reduceMul, Nat.reduceLeDiff, Nat.lt_irrefl, Int.reduceToNat, Int.reduceLT, Int.reduceLE, cF4])) (by simp (disch := (apply Apart.mk; decide)) only [go_sem, Nat.reduceAdd, Nat.reduceLT, Nat.reduceMul, Nat.reduceLeDiff, Nat.lt_irrefl, Int.reduceToNat, Int.reduceLT, Int.reduceLE, Try.results6, results_data CT_gives6, resCell, resVal.eq_2, loadOp_sv, cF4]) ⟨rfl, on_nil hwf⟩))
    · rw [xF29] at hr
      dsimp only at hr
      refine w_call' (out := ?o_eF5b) (hp := ?p_eF5b) rfl (by simp (disch := (apply Apart.mk; decide)) only [go_sem, Nat.reduceAdd, Nat.reduceLT, Nat.reduceMul, Nat.reduceLeDiff, Nat.lt_irrefl, Int.reduceToNat, Int.reduceLT, Int.reduceLE, Option.getD_some]; rfl) (by simp (disch := (apply Apart.mk; decide)) only [go_sem, Nat.reduceAdd, Nat.reduceLT, Nat.reduceMul, Nat.reduceLeDiff, Nat.lt_irrefl, Int.reduceToNat, Int.reduceLT, Int.reduceLE, Option.getD_some]; rfl) (by simp (disch := (apply Apart.mk; decide)) only [go_sem, Nat.reduceAdd, Nat.reduceLT, Nat.reduceMul, Nat.reduceLeDiff, Nat.lt_irrefl, Int.reduceToNat, Int.reduceLT, Int.reduceLE, Option.getD_some]; rfl) ?c_eF5b ?d_eF5b ?_
      case c_eF5b => exact darray_Pack_runs_some g eF5 xF29
      case d_eF5b => rfl
      refine w_ops_end (by simp (disch := (apply Apart.mk; decide)) only [go_sem, Nat.reduceAdd, Nat.reduceLT, Nat.reduceMul, Nat.reduceLeDiff, Nat.lt_irrefl, Int.reduceToNat, Int.reduceLT, Int.reduceLE]; rfl) ?_
      refine (w_n ?_)
      refine w_seq ?_
      refine w_joinR (sj := ⟨[(1, .cv (.val (.ptr (some (h.n + 0, 0))))), (5, .cv (.val (.ptr (some (h.n + 2, 0))))), (6, .cv (.val (.int .i64 r2.2))), (34, .cv (.val (.bool (r2.2 != (0 : Int)))))], h.on [some (.cells [.val (.sl (List.map eB g.Final)), .val (.sl (List.map (eL eEdge) g.Edges))]), none, some (.cells [.val (.sl (List.map eB y.graph.Final)), .val (.sl (List.map (eL eEdge) y.graph.Edges)), .row 3 (List.map eI y.base), .row 91 (List.map edarray_cell y.cells), .val (.sl (List.map eI y.count))])]⟩) (w_ops rfl ?_) ?_
      · refine w_upto 3 rfl (by simp (disch := (apply Apart.mk; decide)) only [go_sem, Nat.reduceAdd, Nat.reduceLT, Nat.reduceMul, Nat.reduceLeDiff, Nat.lt_irrefl, Int.reduceToNat, Int.reduceLT, Int.reduceLE]; rfl) ?_
        rcases Bool.eq_false_or_eq_true (r2.2 != (0 : Int)) with cF8 | cF8
        · refine w_ops_end (by simp (disch := (apply Apart.mk; decide)) only [go_sem, Nat.reduceAdd, Nat.reduceLT, Nat.reduceMul, Nat.reduceLeDiff, Nat.lt_irrefl, Int.reduceToNat, Int.reduceLT, Int.reduceLE, cF8]; rfl) ?_
          exact w_k (To.cut hwf (Nat.le_refl _) rfl (by simp (disch := (apply Apart.mk; decide)) only [go_sem, Nat.reduceAdd, Nat.reduceLT, Nat.reduceMul, Nat.reduceLeDiff, Nat.lt_irrefl, Int.reduceToNat, Int.reduceLT, Int.reduceLE, cF4, cF8]))
        · refine w_ops_end (by simp (disch := (apply Apart.mk; decide)) only [go_sem, Nat.reduceAdd, Nat.reduceLT, Nat.reduceMul, Nat.reduceLeDiff, Nat.lt_irrefl, Int.reduceToNat, Int.reduceLT, Int.reduceLE, cF8]; rfl) ?_
          exact w_k (To.cut hwf (Nat.le_refl _) rfl (by simp (disch := (apply Apart.mk; decide)) only [go_sem, Nat.reduceAdd, Nat.reduceLT, Nat.reduceMul, Nat.reduceLeDiff, Nat.lt_irrefl, Int.reduceToNat, Int.reduceLT, Int.reduceLE, cF4, cF8]))
      refine w_condH (by simp (disch := (apply Apart.mk; decide)) only [go_sem, Nat.reduceAdd, Nat.reduceLT, Nat.reduceMul, Nat.reduceLeDiff, Nat.lt_irrefl, Int.reduceToNat, Int.reduceLT, Int.reduceLE, cF4]) hr (fun cF9 hr => ?_) (fun cF9 hr => ?_)
      · refine w_seq ?_
        refine w_region rfl (by simp (disch := (apply Apart.mk; decide)) only [go_sem, Nat.reduceAdd, Nat.reduceLT, Nat.reduceMul, Nat.reduceLeDiff, Nat.lt_irrefl, Int.reduceToNat, Int.reduceLT, Int.reduceLE, cF4, cF9]; rfl) ?_
        refine (w_n ?_)
        refine w_ret ?_
        obtain rfl := hD _ hr
        exact (w_tr (w_endR (To.cut (os' := []) (sl := [(2, .cv (.val (.bool (r2.2 == (1 : Int)))))]) hwf (Nat.le_refl _) rfl (by simp (disch := (apply Apart.mk; decide)) only [go_sem, Nat.reduceAdd, Nat.reduceLT, Nat.reduceMul, Nat.reduceLeDiff, Nat.lt_irrefl, Int.reduceToNat, Int.reduceLT, Int.reduceLE, cF4, cF9])) (by simp (disch := (apply Apart.mk; decide)) only [go_sem, Nat.reduceAdd, Nat.reduceLT, Nat.reduceMul, Nat.reduceLeDiff, Nat.lt_irrefl, Int.reduceToNat, Int.reduceLT, Int.reduceLE, Try.results6, results_data CT_gives6, resCell, resVal.eq_2, loadOp_sv, cF4, cF9]) ⟨rfl, on_nil hwf⟩))
      · refine w_skip ?_
        refine (w_n ?_)
        refine w_seq ?_
        refine w_region rfl (by simp (disch := (apply Apart.mk; decide)) only [go_sem, Nat.reduceAdd, Nat.reduceLT, Nat.reduceMul, Nat.reduceLeDiff, Nat.lt_irrefl, Int.reduceToNat, Int.reduceLT, Int.reduceLE, cF4, cF9]; rfl) ?_
        refine (w_n ?_)
        refine w_seq ?_
        refine w_seq ?_
        refine w_region rfl (by simp (disch := (apply Apart.mk; decide)) only [go_sem, Nat.reduceAdd, Nat.reduceLT, Nat.reduceMul, Nat.reduceLeDiff, Nat.lt_irrefl, Int.reduceToNat, Int.reduceLT, Int.reduceLE, cF4, cF9]; rfl) ?_
        refine (w_n ?_)
        refine w_K (D := D) (fun xX : Int => ⟨[(1, .cv (.val (.ptr (some (h.n + 0, 0))))), (5, .cv (.val (.ptr (some (h.n + 2, 0))))), (7, .cv (.val (.int .i64 xX)))], h.on [some (.cells [.val (.sl (List.map eB g.Final)), .val (.sl (List.map (eL eEdge) g.Edges))]), none, some (.cells [.val (.sl (List.map eB y.graph.Final)), .val (.sl (List.map (eL eEdge) y.graph.Edges)), .row 3 (List.map eI y.base), .row 91 (List.map edarray_cell y.cells), .val (.sl (List.map eI y.count))])]⟩) (fun xX : Int => scansionlaw18_DarrayTight.k1 g y xX) (fun xX s' hr ht => ?_) ?_
        · obtain ⟨n, rfl⟩ : ∃ z, z = xX := ⟨xX, rfl⟩
          dsimp only [scansionlaw18_DarrayTight.k1] at hr ht
          refine (w_nT ht ?_)
          refine w_seq ?_
          refine w_region rfl (by simp (disch := (apply Apart.mk; decide)) only [go_sem, Nat.reduceAdd, Nat.reduceLT, Nat.reduceMul, Nat.reduceLeDiff, Nat.lt_irrefl, Int.reduceToNat, Int.reduceLT, Int.reduceLE, cF4, cF9]; rfl) ?_
          refine (w_n ?_)
          refine w_seq ?_
          refine w_seq ?_
          refine w_region rfl (by simp (disch := (apply Apart.mk; decide)) only [go_sem, Nat.reduceAdd, Nat.reduceLT, Nat.reduceMul, Nat.reduceLeDiff, Nat.lt_irrefl, Int.reduceToNat, Int.reduceLT, Int.reduceLE, cF4, cF9]; rfl) ?_
          refine (w_n ?_)
          refine w_K (D := D) (fun xX : Int => ⟨[(5, .cv (.val (.ptr (some (h.n + 2, 0))))), (7, .cv (.val (.int .i64 n))), (12, .cv (.val (.int .i64 xX)))], h.on [none, none, some (.cells [.val (.sl (List.map eB y.graph.Final)), .val (.sl (List.map (eL eEdge) y.graph.Edges)), .row 3 (List.map eI y.base), .row 91 (List.map edarray_cell y.cells), .val (.sl (List.map eI y.count))])]⟩) (fun xX : Int => scansionlaw18_DarrayTight.k2 y n xX) (fun xX s' hr ht => ?_) ?_
          · obtain ⟨m, rfl⟩ : ∃ z, z = xX := ⟨xX, rfl⟩
            dsimp only [scansionlaw18_DarrayTight.k2] at hr ht
            refine (w_nT ht ?_)
            obtain ⟨v2, vF14, hr⟩ := hr.bind
            refine w_joinR (sj := ⟨[(2, .cv (.val (.bool v2)))], h.on []⟩) (w_ops rfl ?_) ?_
            · have hr := Holds.intro (D := fun z => z = v2) vF14 rfl
              refine w_upto 3 rfl (by simp (disch := (apply Apart.mk; decide)) only [go_sem, Nat.reduceAdd, Nat.reduceLT, Nat.reduceMul, Nat.reduceLeDiff, Nat.lt_irrefl, Int.reduceToNat, Int.reduceLT, Int.reduceLE]; rfl) ?_
              rcases hr.ite with ⟨cF10, hr⟩ | ⟨cF10, hr⟩
              · refine w_upto 1 rfl (by simp (disch := (apply Apart.mk; decide)) only [go_sem, Nat.reduceAdd, Nat.reduceLT, Nat.reduceMul, Nat.reduceLeDiff, Nat.lt_irrefl, Int.reduceToNat, Int.reduceLT, Int.reduceLE, cF10]; rfl) ?_
                obtain ⟨r3, eF11, hr⟩ := hr.bind
                refine w_call' (out := ?o_eF11) (hp := ?p_eF11) (by simp (disch := (apply Apart.mk; decide)) only [go_sem, Nat.reduceAdd, Nat.reduceLT, Nat.reduceMul, Nat.reduceLeDiff, Nat.lt_irrefl, Int.reduceToNat, Int.reduceLT, Int.reduceLE, Option.getD_some, cF10]) (by simp (disch := (apply Apart.mk; decide)) only [go_sem, Nat.reduceAdd, Nat.reduceLT, Nat.reduceMul, Nat.reduceLeDiff, Nat.lt_irrefl, Int.reduceToNat, Int.reduceLT, Int.reduceLE, Option.getD_some, cF10]; rfl) (by simp (disch := (apply Apart.mk; decide)) only [go_sem, Nat.reduceAdd, Nat.reduceLT, Nat.reduceMul, Nat.reduceLeDiff, Nat.lt_irrefl, Int.reduceToNat, Int.reduceLT, Int.reduceLE, Option.getD_some, cF10]; rfl) (by simp (disch := (apply Apart.mk; decide)) only [go_sem, Nat.reduceAdd, Nat.reduceLT, Nat.reduceMul, Nat.reduceLeDiff, Nat.lt_irrefl, Int.reduceToNat, Int.reduceLT, Int.reduceLE, Option.getD_some, cF10]; rfl) ?c_eF11 ?d_eF11 ?_
                case c_eF11 => (refine darray_Array_Cells_runs y (h.n + 2) ?_ eF11; (simp (disch := (apply Apart.mk; decide)) only [go_sem, Nat.reduceAdd, Nat.reduceLT, Nat.reduceMul, Nat.reduceLeDiff, Nat.lt_irrefl, Int.reduceToNat, Int.reduceLT, Int.reduceLE]))
                case d_eF11 => rfl
                refine w_upto 6 rfl (by simp (disch := (apply Apart.mk; decide)) only [go_sem, Nat.reduceAdd, Nat.reduceLT, Nat.reduceMul, Nat.reduceLeDiff, Nat.lt_irrefl, Int.reduceToNat, Int.reduceLT, Int.reduceLE, cF10]; rfl) ?_
                rcases hr.ite with ⟨cF12, hr⟩ | ⟨cF12, hr⟩
                · refine w_upto 1 rfl (by simp (disch := (apply Apart.mk; decide)) only [go_sem, Nat.reduceAdd, Nat.reduceLT, Nat.reduceMul, Nat.reduceLeDiff, Nat.lt_irrefl, Int.reduceToNat, Int.reduceLT, Int.reduceLE, cF10, cF12]; rfl) ?_
                  obtain ⟨r4, eF13, hr⟩ := hr.bind
                  refine w_call' (out := ?o_eF13) (hp := ?p_eF13) (by simp (disch := (apply Apart.mk; decide)) only [go_sem, Nat.reduceAdd, Nat.reduceLT, Nat.reduceMul, Nat.reduceLeDiff, Nat.lt_irrefl, Int.reduceToNat, Int.reduceLT, Int.reduceLE, Option.getD_some, cF10, cF12]) (by simp (disch := (apply Apart.mk; decide)) only [go_sem, Nat.reduceAdd, Nat.reduceLT, Nat.reduceMul, Nat.reduceLeDiff, Nat.lt_irrefl, Int.reduceToNat, Int.reduceLT, Int.reduceLE, Option.getD_some, cF10, cF12]; rfl) (by simp (disch := (apply Apart.mk; decide)) only [go_sem, Nat.reduceAdd, Nat.reduceLT, Nat.reduceMul, Nat.reduceLeDiff, Nat.lt_irrefl, Int.reduceToNat, Int.reduceLT, Int.reduceLE, Option.getD_some, cF10, cF12]; rfl) (by simp (disch := (apply Apart.mk; decide)) only [go_sem, Nat.reduceAdd, Nat.reduceLT, Nat.reduceMul, Nat.reduceLeDiff, Nat.lt_irrefl, Int.reduceToNat, Int.reduceLT, Int.reduceLE, Option.getD_some, cF10, cF12]; rfl) ?c_eF13 ?d_eF13 ?_
                  case c_eF13 => (refine darray_Array_Cells_runs y (h.n + 2) ?_ eF13; (simp (disch := (apply Apart.mk; decide)) only [go_sem, Nat.reduceAdd, Nat.reduceLT, Nat.reduceMul, Nat.reduceLeDiff, Nat.lt_irrefl, Int.reduceToNat, Int.reduceLT, Int.reduceLE]))
                  case d_eF13 => rfl
                  refine w_ops_end (by simp (disch := (apply Apart.mk; decide)) only [go_sem, Nat.reduceAdd, Nat.reduceLT, Nat.reduceMul, Nat.reduceLeDiff, Nat.lt_irrefl, Int.reduceToNat, Int.reduceLT, Int.reduceLE, cF10, cF12]; rfl) ?_
                  obtain rfl : _ = v2 := hr
                  exact w_k (To.cut hwf (Nat.le_refl _) rfl (by simp (disch := (apply Apart.mk; decide)) only [go_sem, Nat.reduceAdd, Nat.reduceLT, Nat.reduceMul, Nat.reduceLeDiff, Nat.lt_irrefl, Int.reduceToNat, Int.reduceLT, Int.reduceLE, cF4, cF9, cF10, cF12]))
                · refine w_upto 1 rfl (by simp (disch := (apply Apart.mk; decide)) only [go_sem, Nat.reduceAdd, Nat.reduceLT, Nat.reduceMul, Nat.reduceLeDiff, Nat.lt_irrefl, Int.reduceToNat, Int.reduceLT, Int.reduceLE, cF10, cF12]; rfl) ?_
                  refine w_off (by simp (disch := (apply Apart.mk; decide)) only [go_sem, Nat.reduceAdd, Nat.reduceLT, Nat.reduceMul, Nat.reduceLeDiff, Nat.lt_irrefl, Int.reduceToNat, Int.reduceLT, Int.reduceLE, cF10, cF12]) ?_
                  refine w_ops_end (by simp (disch := (apply Apart.mk; decide)) only [go_sem, Nat.reduceAdd, Nat.reduceLT, Nat.reduceMul, Nat.reduceLeDiff, Nat.lt_irrefl, Int.reduceToNat, Int.reduceLT, Int.reduceLE, cF10, cF12]; rfl) ?_
                  obtain rfl : _ = v2 := hr
                  exact w_k (To.cut hwf (Nat.le_refl _) rfl (by simp (disch := (apply Apart.mk; decide)) only [go_sem, Nat.reduceAdd, Nat.reduceLT, Nat.reduceMul, Nat.reduceLeDiff, Nat.lt_irrefl, Int.reduceToNat, Int.reduceLT, Int.reduceLE, cF4, cF9, cF10, cF12]))
              · refine w_upto 1 rfl (by simp (disch := (apply Apart.mk; decide)) only [go_sem, Nat.reduceAdd, Nat.reduceLT, Nat.reduceMul, Nat.reduceLeDiff, Nat.lt_irrefl, Int.reduceToNat, Int.reduceLT, Int.reduceLE, cF10]; rfl) ?_
                refine w_off (by simp (disch := (apply Apart.mk; decide)) only [go_sem, Nat.reduceAdd, Nat.reduceLT, Nat.reduceMul, Nat.reduceLeDiff, Nat.lt_irrefl, Int.reduceToNat, Int.reduceLT, Int.reduceLE, cF10]) ?_
                refine w_upto 7 rfl (by simp (disch := (apply Apart.mk; decide)) only [go_sem, Nat.reduceAdd, Nat.reduceLT, Nat.reduceMul, Nat.reduceLeDiff, Nat.lt_irrefl, Int.reduceToNat, Int.reduceLT, Int.reduceLE, cF10]; rfl) ?_
                refine w_off (by simp (disch := (apply Apart.mk; decide)) only [go_sem, Nat.reduceAdd, Nat.reduceLT, Nat.reduceMul, Nat.reduceLeDiff, Nat.lt_irrefl, Int.reduceToNat, Int.reduceLT, Int.reduceLE, cF10]) ?_
                refine w_ops_end (by simp (disch := (apply Apart.mk; decide)) only [go_sem, Nat.reduceAdd, Nat.reduceLT, Nat.reduceMul, Nat.reduceLeDiff, Nat.lt_irrefl, Int.reduceToNat, Int.reduceLT, Int.reduceLE, cF10]; rfl) ?_
                obtain rfl : _ = v2 := hr
                exact w_k (To.cut hwf (Nat.le_refl _) rfl (by simp (disch := (apply Apart.mk; decide)) only [go_sem, Nat.reduceAdd, Nat.reduceLT, Nat.reduceMul, Nat.reduceLeDiff, Nat.lt_irrefl, Int.reduceToNat, Int.reduceLT, Int.reduceLE, cF4, cF9, cF10]))
            refine w_ret ?_
            obtain rfl := hD _ hr
            exact (w_endR (To.cut (os' := []) (sl := [(2, .cv (.val (.bool v2)))]) hwf (Nat.le_refl _) rfl (by simp (disch := (apply Apart.mk; decide)) only [go_sem, Nat.reduceAdd, Nat.reduceLT, Nat.reduceMul, Nat.reduceLeDiff, Nat.lt_irrefl, Int.reduceToNat, Int.reduceLT, Int.reduceLE, cF4, cF9])) (by simp (disch := (apply Apart.mk; decide)) only [go_sem, Nat.reduceAdd, Nat.reduceLT, Nat.reduceMul, Nat.reduceLeDiff, Nat.lt_irrefl, Int.reduceToNat, Int.reduceLT, Int.reduceLE, Try.results6, results_data CT_gives6, resCell, resVal.eq_2, loadOp_sv, cF4, cF9]) ⟨rfl, on_nil hwf⟩)
          · refine w_block ?_
            refine w_Loop (fun xX : (Int × Int) => ⟨[(1, .cv (.val (.ptr (some (h.n + 0, 0))))), (5, .cv (.val (.ptr (some (h.n + 2, 0))))), (7, .cv (.val (.int .i64 n))), (12, .cv (.val (.int .i64 xX.1))), (13, .cv (.val (.int .i64 xX.2)))], h.on [some (.cells [.val (.sl (List.map eB g.Final)), .val (.sl (List.map (eL eEdge) g.Edges))]), none, some (.cells [.val (.sl (List.map eB y.graph.Final)), .val (.sl (List.map (eL eEdge) y.graph.Edges)), .row 3 (List.map eI y.base), .row 91 (List.map edarray_cell y.cells), .val (.sl (List.map eI y.count))])]⟩) hr (To.cut hwf (Nat.le_refl _) rfl (by simp (disch := (apply Apart.mk; decide)) only [go_sem, Nat.reduceAdd, Nat.reduceLT, Nat.reduceMul, Nat.reduceLeDiff, Nat.lt_irrefl, Int.reduceToNat, Int.reduceLT, Int.reduceLE, cF4, cF9])) (fun W1 xX hr => ?_)
            obtain ⟨m1, s⟩ := xX
            dsimp only [scansionlaw18_DarrayTight.b1] at hr
            refine w_seq ?_
            refine w_seq ?_
            refine w_region rfl (by simp (disch := (apply Apart.mk; decide)) only [go_sem, Nat.reduceAdd, Nat.reduceLT, Nat.reduceMul, Nat.reduceLeDiff, Nat.lt_irrefl, Int.reduceToNat, Int.reduceLT, Int.reduceLE, cF4, cF9]; rfl) ?_
            refine (w_n ?_)
            refine w_condH (by simp (disch := (apply Apart.mk; decide)) only [go_sem, Nat.reduceAdd, Nat.reduceLT, Nat.reduceMul, Nat.reduceLeDiff, Nat.lt_irrefl, Int.reduceToNat, Int.reduceLT, Int.reduceLE, cF4, cF9]) hr (fun cF15 hr => ?_) (fun cF15 hr => ?_)
            · refine w_skip ?_
              refine (w_n ?_)
              refine w_seq ?_
              refine w_block ?_
              obtain ⟨xs, nF16, eF17, gF18, hr⟩ := hr.idx
              refine w_region rfl (by simp (disch := (apply Apart.mk; decide)) only [go_sem, Nat.reduceAdd, Nat.reduceLT, Nat.reduceMul, Nat.reduceLeDiff, Nat.lt_irrefl, Int.reduceToNat, Int.reduceLT, Int.reduceLE, nF16, eF17, gF18, cF4, cF9, cF15]; rfl) ?_
              refine (w_bn (w_n ?_))
              refine w_region rfl (by simp (disch := (apply Apart.mk; decide)) only [go_sem, Nat.reduceAdd, Nat.reduceLT, Nat.reduceMul, Nat.reduceLeDiff, Nat.lt_irrefl, Int.reduceToNat, Int.reduceLT, Int.reduceLE, cF4, cF9, cF15]; rfl) ?_
              exact (w_k ⟨((IntKind.i64.wrap (m1 + (xs.length : Int))), (IntKind.i64.wrap (s + (1 : Int)))), hr, (To.cut hwf (Nat.le_refl _) rfl (by simp (disch := (apply Apart.mk; decide)) only [go_sem, Nat.reduceAdd, Nat.reduceLT, Nat.reduceMul, Nat.reduceLeDiff, Nat.lt_irrefl, Int.reduceToNat, Int.reduceLT, Int.reduceLE, cF4, cF9, cF15]))⟩)
            · refine w_exit ?_
              exact (w_te (w_te (w_bx (w_k ⟨m1, (hr).map, (To.cut hwf (Nat.le_refl _) rfl (by simp (disch := (apply Apart.mk; decide)) only [go_sem, Nat.reduceAdd, Nat.reduceLT, Nat.reduceMul, Nat.reduceLeDiff, Nat.lt_irrefl, Int.reduceToNat, Int.reduceLT, Int.reduceLE, cF4, cF9, cF15]))⟩))))
        · refine w_block ?_
          refine w_Loop (fun xX : (Int × Int) => ⟨[(1, .cv (.val (.ptr (some (h.n + 0, 0))))), (5, .cv (.val (.ptr (some (h.n + 2, 0))))), (7, .cv (.val (.int .i64 xX.1))), (8, .cv (.val (.int .i64 xX.2)))], h.on [some (.cells [.val (.sl (List.map eB g.Final)), .val (.sl (List.map (eL eEdge) g.Edges))]), none, some (.cells [.val (.sl (List.map eB y.graph.Final)), .val (.sl (List.map (eL eEdge) y.graph.Edges)), .row 3 (List.map eI y.base), .row 91 (List.map edarray_cell y.cells), .val (.sl (List.map eI y.count))])]⟩) hr (To.cut hwf (Nat.le_refl _) rfl (by simp (disch := (apply Apart.mk; decide)) only [go_sem, Nat.reduceAdd, Nat.reduceLT, Nat.reduceMul, Nat.reduceLeDiff, Nat.lt_irrefl, Int.reduceToNat, Int.reduceLT, Int.reduceLE, cF4, cF9])) (fun W2 xX hr => ?_)
          obtain ⟨n1, s1⟩ := xX
          dsimp only [scansionlaw18_DarrayTight.b2] at hr
          refine w_seq ?_
          refine w_seq ?_
          refine w_region rfl (by simp (disch := (apply Apart.mk; decide)) only [go_sem, Nat.reduceAdd, Nat.reduceLT, Nat.reduceMul, Nat.reduceLeDiff, Nat.lt_irrefl, Int.reduceToNat, Int.reduceLT, Int.reduceLE, cF4, cF9]; rfl) ?_
          refine (w_n ?_)
          refine w_condH (by simp (disch := (apply Apart.mk; decide)) only [go_sem, Nat.reduceAdd, Nat.reduceLT, Nat.reduceMul, Nat.reduceLeDiff, Nat.lt_irrefl, Int.reduceToNat, Int.reduceLT, Int.reduceLE, cF4, cF9]) hr (fun cF19 hr => ?_) (fun cF19 hr => ?_)
          · refine w_skip ?_
            refine (w_n ?_)
            refine w_seq ?_
            refine w_K (D := (Aft W2 D)) (fun xX : Int => ⟨[(1, .cv (.val (.ptr (some (h.n + 0, 0))))), (5, .cv (.val (.ptr (some (h.n + 2, 0))))), (7, .cv (.val (.int .i64 xX))), (8, .cv (.val (.int .i64 s1)))], h.on [some (.cells [.val (.sl (List.map eB g.Final)), .val (.sl (List.map (eL eEdge) g.Edges))]), none, some (.cells [.val (.sl (List.map eB y.graph.Final)), .val (.sl (List.map (eL eEdge) y.graph.Edges)), .row 3 (List.map eI y.base), .row 91 (List.map edarray_cell y.cells), .val (.sl (List.map eI y.count))])]⟩) (fun xX : Int => scansionlaw18_DarrayTight.k3 s1 xX) (fun xX s' hr ht => ?_) ?_
            · obtain ⟨n2, rfl⟩ : ∃ z, z = xX := ⟨xX, rfl⟩
              dsimp only [scansionlaw18_DarrayTight.k3] at hr ht
              refine (w_nT ht ?_)
              refine w_region rfl (by simp (disch := (apply Apart.mk; decide)) only [go_sem, Nat.reduceAdd, Nat.reduceLT, Nat.reduceMul, Nat.reduceLeDiff, Nat.lt_irrefl, Int.reduceToNat, Int.reduceLT, Int.reduceLE, cF4, cF9, cF19]; rfl) ?_
              exact (w_k ⟨(n2, (IntKind.i64.wrap (s1 + (1 : Int)))), hr, (To.cut hwf (Nat.le_refl _) rfl (by simp (disch := (apply Apart.mk; decide)) only [go_sem, Nat.reduceAdd, Nat.reduceLT, Nat.reduceMul, Nat.reduceLeDiff, Nat.lt_irrefl, Int.reduceToNat, Int.reduceLT, Int.reduceLE, cF4, cF9, cF19]))⟩)
            · refine w_block ?_
              refine w_seq ?_
              refine w_seq ?_
              refine w_region rfl (by simp (disch := (apply Apart.mk; decide)) only [go_sem, Nat.reduceAdd, Nat.reduceLT, Nat.reduceMul, Nat.reduceLeDiff, Nat.lt_irrefl, Int.reduceToNat, Int.reduceLT, Int.reduceLE, cF4, cF9, cF19]; rfl) ?_
              refine (w_n ?_)
              refine w_K (D := (Aft W2 D)) (fun xX : Int => ⟨[(1, .cv (.val (.ptr (some (h.n + 0, 0))))), (5, .cv (.val (.ptr (some (h.n + 2, 0))))), (7, .cv (.val (.int .i64 xX))), (8, .cv (.val (.int .i64 s1)))], h.on [some (.cells [.val (.sl (List.map eB g.Final)), .val (.sl (List.map (eL eEdge) g.Edges))]), none, some (.cells [.val (.sl (List.map eB y.graph.Final)), .val (.sl (List.map (eL eEdge) y.graph.Edges)), .row 3 (List.map eI y.base), .row 91 (List.map edarray_cell y.cells), .val (.sl (List.map eI y.count))])]⟩) (fun xX : Int => scansionlaw18_DarrayTight.k4 g s1 xX) (fun xX s' hr ht => ?_) ?_
              · obtain ⟨n3, rfl⟩ : ∃ z, z = xX := ⟨xX, rfl⟩
                dsimp only [scansionlaw18_DarrayTight.k4] at hr ht
                refine (w_nT ht ?_)
                obtain ⟨xs1, nF20, eF21, gF22, hr⟩ := hr.idx
                refine w_region rfl (by simp (disch := (apply Apart.mk; decide)) only [go_sem, Nat.reduceAdd, Nat.reduceLT, Nat.reduceMul, Nat.reduceLeDiff, Nat.lt_irrefl, Int.reduceToNat, Int.reduceLT, Int.reduceLE, nF20, eF21, gF22, cF4, cF9, cF19]; rfl) ?_
                exact (w_bn (w_k ⟨(IntKind.i64.wrap (n3 + (xs1.length : Int))), hr, (To.cut hwf (Nat.le_refl _) rfl (by simp (disch := (apply Apart.mk; decide)) only [go_sem, Nat.reduceAdd, Nat.reduceLT, Nat.reduceMul, Nat.reduceLeDiff, Nat.lt_irrefl, Int.reduceToNat, Int.reduceLT, Int.reduceLE, cF4, cF9, cF19]))⟩))
              · refine w_block ?_
                refine w_Loop (fun xX : (Int × Int) => ⟨[(1, .cv (.val (.ptr (some (h.n + 0, 0))))), (5, .cv (.val (.ptr (some (h.n + 2, 0))))), (7, .cv (.val (.int .i64 xX.1))), (8, .cv (.val (.int .i64 s1))), (9, .cv (.val (.int .i64 xX.2)))], h.on [some (.cells [.val (.sl (List.map eB g.Final)), .val (.sl (List.map (eL eEdge) g.Edges))]), none, some (.cells [.val (.sl (List.map eB y.graph.Final)), .val (.sl (List.map (eL eEdge) y.graph.Edges)), .row 3 (List.map eI y.base), .row 91 (List.map edarray_cell y.cells), .val (.sl (List.map eI y.count))])]⟩) hr (To.cut hwf (Nat.le_refl _) rfl (by simp (disch := (apply Apart.mk; decide)) only [go_sem, Nat.reduceAdd, Nat.reduceLT, Nat.reduceMul, Nat.reduceLeDiff, Nat.lt_irrefl, Int.reduceToNat, Int.reduceLT, Int.reduceLE, cF4, cF9, cF19])) (fun W3 xX hr => ?_)
                obtain ⟨n4, c⟩ := xX
                dsimp only [scansionlaw18_DarrayTight.b3] at hr
                refine w_seq ?_
                refine w_seq ?_
                refine w_region rfl (by simp (disch := (apply Apart.mk; decide)) only [go_sem, Nat.reduceAdd, Nat.reduceLT, Nat.reduceMul, Nat.reduceLeDiff, Nat.lt_irrefl, Int.reduceToNat, Int.reduceLT, Int.reduceLE, cF4, cF9, cF19]; rfl) ?_
                refine (w_n ?_)
                refine w_condH (by simp (disch := (apply Apart.mk; decide)) only [go_sem, Nat.reduceAdd, Nat.reduceLT, Nat.reduceMul, Nat.reduceLeDiff, Nat.lt_irrefl, Int.reduceToNat, Int.reduceLT, Int.reduceLE, cF4, cF9, cF19]) hr (fun cF23 hr => ?_) (fun cF23 hr => ?_)
                · refine w_skip ?_
                  refine (w_n ?_)
                  refine w_seq ?_
                  refine w_block ?_
                  refine w_seq ?_
                  refine w_ops rfl ?_
                  refine w_upto 4 rfl (by simp (disch := (apply Apart.mk; decide)) only [go_sem, Nat.reduceAdd, Nat.reduceLT, Nat.reduceMul, Nat.reduceLeDiff, Nat.lt_irrefl, Int.reduceToNat, Int.reduceLT, Int.reduceLE]; rfl) ?_
                  obtain ⟨r5, eF24, hr⟩ := hr.bind
                  refine w_call' (out := ?o_eF24) (hp := ?p_eF24) rfl (by simp (disch := (apply Apart.mk; decide)) only [go_sem, Nat.reduceAdd, Nat.reduceLT, Nat.reduceMul, Nat.reduceLeDiff, Nat.lt_irrefl, Int.reduceToNat, Int.reduceLT, Int.reduceLE, Option.getD_some]; rfl) (by simp (disch := (apply Apart.mk; decide)) only [go_sem, Nat.reduceAdd, Nat.reduceLT, Nat.reduceMul, Nat.reduceLeDiff, Nat.lt_irrefl, Int.reduceToNat, Int.reduceLT, Int.reduceLE, Option.getD_some]; rfl) (by simp (disch := (apply Apart.mk; decide)) only [go_sem, Nat.reduceAdd, Nat.reduceLT, Nat.reduceMul, Nat.reduceLeDiff, Nat.lt_irrefl, Int.reduceToNat, Int.reduceLT, Int.reduceLE, Option.getD_some]; rfl) ?c_eF24 ?d_eF24 ?_
                  case c_eF24 => (rw [show ((IntKind.u8.wrap c) : Int) = ((u8 (IntKind.u8.wrap c)).toNat : Int) from u8_wrap.symm]; refine darray_Array_Step_runs y s1 (u8 (IntKind.u8.wrap c)) (h.n + 2) ?_ eF24; (simp (disch := (apply Apart.mk; decide)) only [go_sem, Nat.reduceAdd, Nat.reduceLT, Nat.reduceMul, Nat.reduceLeDiff, Nat.lt_irrefl, Int.reduceToNat, Int.reduceLT, Int.reduceLE]))
                  case d_eF24 => rfl
                  refine w_ops_end (by simp (disch := (apply Apart.mk; decide)) only [go_sem, Nat.reduceAdd, Nat.reduceLT, Nat.reduceMul, Nat.reduceLeDiff, Nat.lt_irrefl, Int.reduceToNat, Int.reduceLT, Int.reduceLE]; rfl) ?_
                  refine (w_n ?_)
                  refine w_seq ?_
                  refine w_seq ?_
                  refine w_region rfl (by simp (disch := (apply Apart.mk; decide)) only [go_sem, Nat.reduceAdd, Nat.reduceLT, Nat.reduceMul, Nat.reduceLeDiff, Nat.lt_irrefl, Int.reduceToNat, Int.reduceLT, Int.reduceLE, cF4, cF9, cF19, cF23]; rfl) ?_
                  refine (w_n ?_)
                  refine w_K (D := (Aft W3 (Aft W2 D))) (fun xX : Int => ⟨[(1, .cv (.val (.ptr (some (h.n + 0, 0))))), (5, .cv (.val (.ptr (some (h.n + 2, 0))))), (7, .cv (.val (.int .i64 xX))), (8, .cv (.val (.int .i64 s1))), (9, .cv (.val (.int .i64 c))), (10, .cv (.val (.int .i64 r5.1))), (11, .cv (.val (.bool r5.2)))], h.on [some (.cells [.val (.sl (List.map eB g.Final)), .val (.sl (List.map (eL eEdge) g.Edges))]), none, some (.cells [.val (.sl (List.map eB y.graph.Final)), .val (.sl (List.map (eL eEdge) y.graph.Edges)), .row 3 (List.map eI y.base), .row 91 (List.map edarray_cell y.cells), .val (.sl (List.map eI y.count))])]⟩) (fun xX : Int => scansionlaw18_DarrayTight.k5 s1 c r5 xX) (fun xX s' hr ht => ?_) ?_
                  · obtain ⟨n5, rfl⟩ : ∃ z, z = xX := ⟨xX, rfl⟩
                    dsimp only [scansionlaw18_DarrayTight.k5] at hr ht
                    refine (w_nT ht ?_)
                    refine w_joinR (sj := ⟨[(1, .cv (.val (.ptr (some (h.n + 0, 0))))), (5, .cv (.val (.ptr (some (h.n + 2, 0))))), (7, .cv (.val (.int .i64 n5))), (8, .cv (.val (.int .i64 s1))), (9, .cv (.val (.int .i64 c))), (68, .cv (.val (.bool (r5.2 && ((decide (r5.1 < (0 : Int))) || (decide (r5.1 ≥ s1)))))))], h.on [some (.cells [.val (.sl (List.map eB g.Final)), .val (.sl (List.map (eL eEdge) g.Edges))]), none, some (.cells [.val (.sl (List.map eB y.graph.Final)), .val (.sl (List.map (eL eEdge) y.graph.Edges)), .row 3 (List.map eI y.base), .row 91 (List.map edarray_cell y.cells), .val (.sl (List.map eI y.count))])]⟩) (w_ops rfl ?_) ?_
                    · refine w_upto 2 rfl (by simp (disch := (apply Apart.mk; decide)) only [go_sem, Nat.reduceAdd, Nat.reduceLT, Nat.reduceMul, Nat.reduceLeDiff, Nat.lt_irrefl, Int.reduceToNat, Int.reduceLT, Int.reduceLE]; rfl) ?_
                      rcases Bool.eq_false_or_eq_true r5.2 with cF25 | cF25
                      · refine w_upto 3 rfl (by simp (disch := (apply Apart.mk; decide)) only [go_sem, Nat.reduceAdd, Nat.reduceLT, Nat.reduceMul, Nat.reduceLeDiff, Nat.lt_irrefl, Int.reduceToNat, Int.reduceLT, Int.reduceLE, cF25]; rfl) ?_
                        rcases Bool.eq_false_or_eq_true (decide (r5.1 < (0 : Int))) with cF26 | cF26
                        · refine w_ops_end (by simp (disch := (apply Apart.mk; decide)) only [go_sem, Nat.reduceAdd, Nat.reduceLT, Nat.reduceMul, Nat.reduceLeDiff, Nat.lt_irrefl, Int.reduceToNat, Int.reduceLT, Int.reduceLE, cF25, cF26]; rfl) ?_
                          exact w_k (To.cut hwf (Nat.le_refl _) rfl (by simp (disch := (apply Apart.mk; decide)) only [go_sem, Nat.reduceAdd, Nat.reduceLT, Nat.reduceMul, Nat.reduceLeDiff, Nat.lt_irrefl, Int.reduceToNat, Int.reduceLT, Int.reduceLE, cF4, cF9, cF19, cF23, cF25, cF26]))
                        · refine w_ops_end (by simp (disch := (apply Apart.mk; decide)) only [go_sem, Nat.reduceAdd, Nat.reduceLT, Nat.reduceMul, Nat.reduceLeDiff, Nat.lt_irrefl, Int.reduceToNat, Int.reduceLT, Int.reduceLE, cF25, cF26]; rfl) ?_
                          exact w_k (To.cut hwf (Nat.le_refl _) rfl (by simp (disch := (apply Apart.mk; decide)) only [go_sem, Nat.reduceAdd, Nat.reduceLT, Nat.reduceMul, Nat.reduceLeDiff, Nat.lt_irrefl, Int.reduceToNat, Int.reduceLT, Int.reduceLE, cF4, cF9, cF19, cF23, cF25, cF26]))
                      · refine w_ops_end (by simp (disch := (apply Apart.mk; decide)) only [go_sem, Nat.reduceAdd, Nat.reduceLT, Nat.reduceMul, Nat.reduceLeDiff, Nat.lt_irrefl, Int.reduceToNat, Int.reduceLT, Int.reduceLE, cF25]; rfl) ?_
                        exact w_k (To.cut hwf (Nat.le_refl _) rfl (by simp (disch := (apply Apart.mk; decide)) only [go_sem, Nat.reduceAdd, Nat.reduceLT, Nat.reduceMul, Nat.reduceLeDiff, Nat.lt_irrefl, Int.reduceToNat, Int.reduceLT, Int.reduceLE, cF4, cF9, cF19, cF23, cF25]))
                    refine w_condH (by simp (disch := (apply Apart.mk; decide)) only [go_sem, Nat.reduceAdd, Nat.reduceLT, Nat.reduceMul, Nat.reduceLeDiff, Nat.lt_irrefl, Int.reduceToNat, Int.reduceLT, Int.reduceLE, cF4, cF9, cF19, cF23]) hr (fun cF27 hr => ?_) (fun cF27 hr => ?_)
                    · refine w_seq ?_
                      refine w_region rfl (by simp (disch := (apply Apart.mk; decide)) only [go_sem, Nat.reduceAdd, Nat.reduceLT, Nat.reduceMul, Nat.reduceLeDiff, Nat.lt_irrefl, Int.reduceToNat, Int.reduceLT, Int.reduceLE, cF4, cF9, cF19, cF23, cF27]; rfl) ?_
                      refine (w_n ?_)
                      refine w_ret ?_
                      obtain rfl := hD _ hr
                      exact (w_br (w_tr (w_tr (w_br (w_tr (w_tr (w_br (w_tr (w_tr (w_tr (w_br (w_tr (w_tr (w_endR (To.cut (os' := []) (sl := [(2, .cv (.val (.bool false)))]) hwf (Nat.le_refl _) rfl (by simp (disch := (apply Apart.mk; decide)) only [go_sem, Nat.reduceAdd, Nat.reduceLT, Nat.reduceMul, Nat.reduceLeDiff, Nat.lt_irrefl, Int.reduceToNat, Int.reduceLT, Int.reduceLE, cF4, cF9, cF19, cF23, cF27])) (by simp (disch := (apply Apart.mk; decide)) only [go_sem, Nat.reduceAdd, Nat.reduceLT, Nat.reduceMul, Nat.reduceLeDiff, Nat.lt_irrefl, Int.reduceToNat, Int.reduceLT, Int.reduceLE, Try.results6, results_data CT_gives6, resCell, resVal.eq_2, loadOp_sv, cF4, cF9, cF19, cF23, cF27]) ⟨rfl, on_nil hwf⟩))))))))))))))
                    · refine w_skip ?_
                      refine (w_bn (w_n ?_))
                      refine w_region rfl (by simp (disch := (apply Apart.mk; decide)) only [go_sem, Nat.reduceAdd, Nat.reduceLT, Nat.reduceMul, Nat.reduceLeDiff, Nat.lt_irrefl, Int.reduceToNat, Int.reduceLT, Int.reduceLE, cF4, cF9, cF19, cF23, cF27]; rfl) ?_
                      exact (w_k ⟨(n5, (IntKind.i64.wrap (c + (1 : Int)))), hr, (To.cut hwf (Nat.le_refl _) rfl (by simp (disch := (apply Apart.mk; decide)) only [go_sem, Nat.reduceAdd, Nat.reduceLT, Nat.reduceMul, Nat.reduceLeDiff, Nat.lt_irrefl, Int.reduceToNat, Int.reduceLT, Int.reduceLE, cF4, cF9, cF19, cF23, cF27]))⟩)
                  · refine w_condH (by simp (disch := (apply Apart.mk; decide)) only [go_sem, Nat.reduceAdd, Nat.reduceLT, Nat.reduceMul, Nat.reduceLeDiff, Nat.lt_irrefl, Int.reduceToNat, Int.reduceLT, Int.reduceLE, cF4, cF9, cF19, cF23]) hr (fun cF28 hr => ?_) (fun cF28 hr => ?_)
                    · refine w_region rfl (by simp (disch := (apply Apart.mk; decide)) only [go_sem, Nat.reduceAdd, Nat.reduceLT, Nat.reduceMul, Nat.reduceLeDiff, Nat.lt_irrefl, Int.reduceToNat, Int.reduceLT, Int.reduceLE, cF4, cF9, cF19, cF23, cF28]; rfl) ?_
                      exact (w_k ⟨(IntKind.i64.wrap (n4 - (1 : Int))), hr, (To.cut hwf (Nat.le_refl _) rfl (by simp (disch := (apply Apart.mk; decide)) only [go_sem, Nat.reduceAdd, Nat.reduceLT, Nat.reduceMul, Nat.reduceLeDiff, Nat.lt_irrefl, Int.reduceToNat, Int.reduceLT, Int.reduceLE, cF4, cF9, cF19, cF23, cF28]))⟩)
                    · refine w_skip ?_
                      exact (w_k ⟨n4, hr, (To.cut hwf (Nat.le_refl _) rfl (by simp (disch := (apply Apart.mk; decide)) only [go_sem, Nat.reduceAdd, Nat.reduceLT, Nat.reduceMul, Nat.reduceLeDiff, Nat.lt_irrefl, Int.reduceToNat, Int.reduceLT, Int.reduceLE, cF4, cF9, cF19, cF23, cF28]))⟩)
                · refine w_exit ?_
                  exact (w_te (w_te (w_bx (w_k ⟨n4, (hr).map, (To.cut hwf (Nat.le_refl _) rfl (by simp (disch := (apply Apart.mk; decide)) only [go_sem, Nat.reduceAdd, Nat.reduceLT, Nat.reduceMul, Nat.reduceLeDiff, Nat.lt_irrefl, Int.reduceToNat, Int.reduceLT, Int.reduceLE, cF4, cF9, cF19, cF23]))⟩))))
          · refine w_exit ?_
            exact (w_te (w_te (w_bx (w_k ⟨n1, (hr).map, (To.cut hwf (Nat.le_refl _) rfl (by simp (disch := (apply Apart.mk; decide)) only [go_sem, Nat.reduceAdd, Nat.reduceLT, Nat.reduceMul, Nat.reduceLeDiff, Nat.lt_irrefl, Int.reduceToNat, Int.reduceLT, Int.reduceLE, cF4, cF9, cF19]))⟩))))
end Go.Val

/- part P1 -/
/- Plain lemmas: loops that are read off. -/
namespace Go.Val
set_option linter.unusedVariables false

theorem w64 {n : Int} (h1 : -9223372036854775808 ≤ n) (h2 : n ≤ 9223372036854775807) : IntKind.i64.wrap n = n := by rw [IntKind.wrap_i64]; omega
theorem w64s {i : Nat} (h : i < 9223372036854775807) : IntKind.i64.wrap ((i : Int) + 1) = ((i + 1 : Nat) : Int) := by rw [w64 (by omega) (by omega)]; omega
theorem idx_nat {α : Type} {xs : List α} {i : Nat} : idx xs (i : Int) = xs[i]? := by
  unfold idx; rw [if_neg (by omega)]; simp
theorem idx_some {α : Type} {xs : List α} {i : Int} {x : α} (h0 : 0 ≤ i) (h : xs[i.toNat]? = some x) : idx xs i = some x := by
  unfold idx; rw [if_neg (by omega)]; exact h
theorem room_ok {sz n : Nat} (h : n * sz ≤ 140737488355328) : room sz n = some () := by
  unfold room roomOf; rw [if_pos h]
theorem roomS_ok {n : Nat} (h : n ≤ 9223372036854775807) : roomS n = some () := by
  unfold roomS; rw [if_neg (by simp [IntKind.max, IntKind.signed, IntKind.bits]; omega)]
theorem mk_ok {α : Type} {sz : Nat} {z : α} {n : Nat} (h : n * sz ≤ 140737488355328) : mk sz z (n : Int) = some (List.replicate n z) := by
  unfold mk roomOf; rw [if_pos ⟨by omega, by simpa using h⟩]; simp

theorem snoc_ind {α : Type} {P : List α → Prop} (h0 : P []) (h1 : ∀ l x, P l → P (l ++ [x])) (l : List α) : P l := by
  have key : ∀ l : List α, P l.reverse := by
    intro l
    induction l with
    | nil => exact h0
    | cons x l ih => rw [List.reverse_cons]; exact h1 _ _ ih
  have := key l.reverse
  rwa [List.reverse_reverse] at this
/-- Rounds that go on, one by one. -/
theorem Loop_run {σ ρ : Type} {b : σ → Option (Step σ ρ)} (st : Nat → σ) {i n : Nat} (hin : i ≤ n) (h : ∀ j, i ≤ j → j < n → b (st j) = some (.next (st (j + 1)))) : Loop b (st i) = Loop b (st n) := by
  induction n with
  | zero => obtain rfl : i = 0 := by omega
            rfl
  | succ n ih =>
    by_cases e : i = n + 1
    · rw [e]
    · rw [ih (by omega) fun j h1 h2 => h j h1 (by omega)]
      exact Loop_next (h n (by omega) (by omega))
theorem Loop_int {ρ : Type} {b : Int → Option (Step Int ρ)} {i n : Nat} (hin : i ≤ n) (h : ∀ j : Nat, i ≤ j → j < n → b j = some (.next ((j + 1 : Nat) : Int))) : Loop b (i : Int) = Loop b (n : Int) := Loop_run (fun j : Nat => (j : Int)) hin h
/-- A loop's end. -/
theorem Loop_end {σ ρ : Type} {b : σ → Option (Step σ ρ)} {s : σ} {R : Option ρ} (h : b s = R.map Step.done) : Loop b s = R := by
  cases R with
  | some r => exact Loop_done h
  | none =>
    apply Option.ext_some
    · intro r hr
      obtain ⟨n, hn⟩ := Loop_get hr
      cases n with
      | zero => simp [rounds] at hn
      | succ n => simp [rounds, h] at hn
    · intro r hr; cases hr
open Classical in
/-- A loop that looks for what is bad. -/
theorem Loop_all {ρ : Type} {b : Int → Option (Step Int ρ)} (P : Nat → Prop) {n : Nat} {r R : ρ} (hg : ∀ j, j < n → P j → b (j : Int) = some (.next ((j + 1 : Nat) : Int))) (hb : ∀ j, j < n → ¬ P j → b (j : Int) = some (.done r)) (he : b (n : Int) = some (.done R)) :
    ∀ (d i : Nat), i + d = n → Loop b (i : Int) = if ∀ j, i ≤ j → j < n → P j then some R else some r := by
  intro d
  induction d with
  | zero =>
    intro i hi
    obtain rfl : i = n := by omega
    rw [if_pos (fun j h1 h2 => by omega)]
    exact Loop_done he
  | succ d ih =>
    intro i hi
    by_cases hp : P i
    · rw [Loop_next (hg i (by omega) hp), ih (i + 1) (by omega)]
      have : (∀ j, i + 1 ≤ j → j < n → P j) ↔ ∀ j, i ≤ j → j < n → P j := by
        constructor
        · intro h j h1 h2
          by_cases e : j = i
          · rw [e]; exact hp
          · exact h j (by omega) h2
        · intro h j h1 h2; exact h j (by omega) h2
      simp only [this]
    · rw [Loop_done (hb i (by omega) hp), if_neg (fun h => hp (h i (Nat.le_refl _) (by omega)))]
theorem Loop_all0 {ρ : Type} {b : Int → Option (Step Int ρ)} (P : Nat → Prop) (n : Nat) {r R : ρ} (hg : ∀ j, j < n → P j → b (j : Int) = some (.next ((j + 1 : Nat) : Int))) (hb : ∀ j, j < n → ¬ P j → b (j : Int) = some (.done r)) (he : b (n : Int) = some (.done R)) :
    ((∀ j, j < n → P j) → Loop b 0 = some R) ∧ ((¬ ∀ j, j < n → P j) → Loop b 0 = some r) := by
  have := Loop_all P hg hb he n 0 (by omega)
  exact ⟨fun h => by rw [if_pos (fun j _ hj => h j hj)] at this; exact this, fun h => by rw [if_neg (fun h' => h fun j hj => h' j (Nat.zero_le _) hj)] at this; exact this⟩
end Go.Val

/- part P2 -/
/- Plain lemmas: graphs that may be. -/
namespace Go.Val
set_option linter.unusedVariables false
def EdgeOk (s : Nat) (xs : List TEdge) (k : Nat) : Prop := ∀ x, xs[k]? = some x → 0 ≤ x.To ∧ x.To < s ∧ (0 < k → ∀ x1, xs[k - 1]? = some x1 → x1.Label.toNat < x.Label.toNat)
def RowOk (s : Nat) (xs : List TEdge) : Prop := ∀ k, k < xs.length → EdgeOk s xs k
structure RightP (g : TGraph) : Prop where
  lo : 1 ≤ g.Final.length
  hi : g.Final.length ≤ 65536
  len : g.Edges.length = g.Final.length
  rows : ∀ s, s < g.Edges.length → ∀ xs, g.Edges[s]? = some xs → RowOk s xs
/-- No row is longer than memory. -/
def Short (g : TGraph) : Prop := ∀ xs ∈ g.Edges, xs.length ≤ 140737488355328

def chk (s : Int) (xs : List TEdge) (k : Int) (x : TEdge) : Option Bool :=
  if (decide (x.To < (0 : Int))) then some true
  else if (decide (x.To ≥ s)) then some true
  else if (decide (k > (0 : Int))) then
    (idx xs (IntKind.i64.wrap (k - (1 : Int)))).bind fun x1 => some (decide ((x.Label.toNat : Int) ≤ (x1.Label.toNat : Int)))
  else some false
theorem chk_eq {s k : Nat} {xs : List TEdge} {x : TEdge} (hk : xs[k]? = some x) (hl : xs.length ≤ 140737488355328) : ∃ v, chk s xs k x = some v ∧ (v = true ↔ ¬ EdgeOk s xs k) := by
  have hlt : k < xs.length := (List.getElem?_eq_some_iff.1 hk).1
  unfold chk
  by_cases h1 : x.To < 0
  · exact ⟨true, by simp [h1], by simp; intro h; have := (h x hk).1; omega⟩
  by_cases h2 : x.To ≥ s
  · exact ⟨true, by simp [h1, h2], by simp; intro h; have := (h x hk).2.1; omega⟩
  by_cases h3 : 0 < k
  · have hlt1 : k - 1 < xs.length := by omega
    have h4 : xs[k - 1]? = some (xs[k - 1]) := List.getElem?_eq_getElem hlt1
    have e : IntKind.i64.wrap ((k : Int) - 1) = ((k - 1 : Nat) : Int) := by rw [w64 (by omega) (by omega)]; omega
    refine ⟨decide ((x.Label.toNat : Int) ≤ (xs[k - 1].Label.toNat : Int)), ?_, ?_⟩
    · rw [if_neg (by simp; omega), if_neg (by simp; omega), if_pos (by simp; omega), e, idx_nat, h4]; rfl
    · simp only [decide_eq_true_eq]
      constructor
      · intro h hok
        have := (hok x hk).2.2 h3 _ h4
        omega
      · intro h
        by_cases hc : (x.Label.toNat : Int) ≤ (xs[k - 1].Label.toNat : Int)
        · exact hc
        · exfalso; apply h
          intro y hy
          rw [hk] at hy; cases hy
          exact ⟨by omega, by omega, fun _ x1 hx1 => by rw [h4] at hx1; cases hx1; omega⟩
  · refine ⟨false, ?_, ?_⟩
    · rw [if_neg (by simp; omega), if_neg (by simp; omega), if_neg (by simp; omega)]
    · simp only [Bool.false_eq_true, false_iff, Classical.not_not]
      intro y hy
      rw [hk] at hy; cases hy
      exact ⟨by omega, by omega, fun h => absurd h h3⟩

theorem dawg_Right_row {s : Nat} {xs : List TEdge} (hs : s ≤ 65536) (hl : xs.length ≤ 140737488355328) : (RowOk s xs → Loop (dawg_Right.b2 s xs) 0 = some (.next ((s + 1 : Nat) : Int))) ∧ (¬ RowOk s xs → Loop (dawg_Right.b2 s xs) 0 = some (.done false)) := by
  refine Loop_all0 (fun k => EdgeOk s xs k) xs.length (fun k hk hp => ?_) (fun k hk hp => ?_) ?_
  · have hx : xs[k]? = some xs[k] := List.getElem?_eq_getElem hk
    obtain ⟨v, h1, h2⟩ := chk_eq (s := s) hx hl
    have hv : v = false := by cases v with
      | true => exact absurd hp (h2.1 rfl)
      | false => rfl
    unfold dawg_Right.b2
    rw [if_pos (by simp; omega), idx_nat, hx]
    show (chk s xs k xs[k]).bind _ = _
    rw [h1, hv]
    simp [w64s (show k < 9223372036854775807 by omega)]
  · have hx : xs[k]? = some xs[k] := List.getElem?_eq_getElem hk
    obtain ⟨v, h1, h2⟩ := chk_eq (s := s) hx hl
    have hv : v = true := h2.2 hp
    unfold dawg_Right.b2
    rw [if_pos (by simp; omega), idx_nat, hx]
    show (chk s xs k xs[k]).bind _ = _
    rw [h1, hv]
    rfl
  · unfold dawg_Right.b2
    rw [if_neg (by simp)]
    simp [dawg_Right.k2, w64s (show s < 9223372036854775807 by omega)]
theorem ref_Right_row {g : TGraph} {s : Nat} {xs : List TEdge} (hg : g.Edges[s]? = some xs) (hs : s ≤ 65536) (hl : xs.length ≤ 140737488355328) : (RowOk s xs → Loop (scansionref17_Right.b2 g s) 0 = some (.next ((s + 1 : Nat) : Int))) ∧ (¬ RowOk s xs → Loop (scansionref17_Right.b2 g s) 0 = some (.done false)) := by
  refine Loop_all0 (fun k => EdgeOk s xs k) xs.length (fun k hk hp => ?_) (fun k hk hp => ?_) ?_
  · have hx : xs[k]? = some xs[k] := List.getElem?_eq_getElem hk
    obtain ⟨v, h1, h2⟩ := chk_eq (s := s) hx hl
    have hv : v = false := by cases v with
      | true => exact absurd hp (h2.1 rfl)
      | false => rfl
    unfold scansionref17_Right.b2
    rw [idx_nat, hg, Option.bind_some, if_pos (by simp; omega), idx_nat, hx]
    show (chk s xs k xs[k]).bind _ = _
    rw [h1, hv]
    simp [w64s (show k < 9223372036854775807 by omega)]
  · have hx : xs[k]? = some xs[k] := List.getElem?_eq_getElem hk
    obtain ⟨v, h1, h2⟩ := chk_eq (s := s) hx hl
    have hv : v = true := h2.2 hp
    unfold scansionref17_Right.b2
    rw [idx_nat, hg, Option.bind_some, if_pos (by simp; omega), idx_nat, hx]
    show (chk s xs k xs[k]).bind _ = _
    rw [h1, hv]
    rfl
  · unfold scansionref17_Right.b2
    rw [idx_nat, hg, Option.bind_some, if_neg (by simp)]
    simp [scansionref17_Right.k2, w64s (show s < 9223372036854775807 by omega)]

open Classical in
theorem dawg_Right_eq {g : TGraph} (hs : Short g) : dawg_Right g = some (decide (RightP g)) := by
  unfold dawg_Right
  split
  · rename_i h
    have : ¬ RightP g := fun hr => by
      have h1 := hr.lo; have h2 := hr.hi; have h3 := hr.len
      simp at h; omega
    simp [this]
  · rename_i h
    simp at h
    obtain ⟨k1, k2⟩ := Loop_all0 (b := dawg_Right.b1 g) (fun s => ∀ xs, g.Edges[s]? = some xs → RowOk s xs) g.Edges.length (r := false) (R := true) (fun s hlt hp => by
        have hx : g.Edges[s]? = some g.Edges[s] := List.getElem?_eq_getElem hlt
        unfold dawg_Right.b1
        rw [if_pos (by simp; omega), idx_nat, hx, Option.bind_some, (dawg_Right_row (by omega) (hs _ (List.getElem_mem hlt))).1 (hp _ hx)])
      (fun s hlt hp => by
        have hx : g.Edges[s]? = some g.Edges[s] := List.getElem?_eq_getElem hlt
        unfold dawg_Right.b1
        rw [if_pos (by simp; omega), idx_nat, hx, Option.bind_some, (dawg_Right_row (by omega) (hs _ (List.getElem_mem hlt))).2 (fun h => hp fun xs he => by rw [hx] at he; cases he; exact h)])
      (by unfold dawg_Right.b1; rw [if_neg (by simp)]; rfl)
    by_cases hr : RightP g
    · rw [k1 hr.rows]; simp [hr]
    · rw [k2 (fun hrows => hr ⟨by omega, by omega, by omega, hrows⟩)]; simp [hr]
open Classical in
theorem ref_Right_eq {g : TGraph} (hs : Short g) : scansionref17_Right g = some (decide (RightP g)) := by
  unfold scansionref17_Right
  split
  · rename_i h
    have : ¬ RightP g := fun hr => by
      have h1 := hr.lo; have h2 := hr.hi; have h3 := hr.len
      simp at h; omega
    simp [this]
  · rename_i h
    simp at h
    obtain ⟨k1, k2⟩ := Loop_all0 (b := scansionref17_Right.b1 g) (fun s => ∀ xs, g.Edges[s]? = some xs → RowOk s xs) g.Final.length (r := false) (R := true) (fun s hlt hp => by
        have hx : g.Edges[s]? = some (g.Edges[s]'(by omega)) := List.getElem?_eq_getElem _
        unfold scansionref17_Right.b1
        rw [if_pos (by simp; omega), (ref_Right_row hx (by omega) (hs _ (List.getElem_mem _))).1 (hp _ hx)])
      (fun s hlt hp => by
        have hx : g.Edges[s]? = some (g.Edges[s]'(by omega)) := List.getElem?_eq_getElem _
        unfold scansionref17_Right.b1
        rw [if_pos (by simp; omega), (ref_Right_row hx (by omega) (hs _ (List.getElem_mem _))).2 (fun h => hp fun xs he => by rw [hx] at he; cases he; exact h)])
      (by unfold scansionref17_Right.b1; rw [if_neg (by simp)]; rfl)
    by_cases hr : RightP g
    · rw [k1 (fun s hlt => hr.rows s (by omega))]; simp [hr]
    · rw [k2 (fun hrows => hr ⟨by omega, by omega, by omega, fun s hlt => hrows s (by omega)⟩)]; simp [hr]
end Go.Val

/- part P3 -/
/- Plain lemmas: how many words lead to an end. -/
namespace Go.Val
set_option linter.unusedVariables false
def cap : Int := 1099511627776
def crow (cs : List Int) (n : Int) (xs : List TEdge) : Int := xs.foldl (fun n x => mn (n + cs.getD x.To.toNat 0) cap) n
def cstep (cs : List Int) (p : Bool × List TEdge) : Int := crow cs (if p.1 then 1 else 0) p.2
def counts (rows : List (Bool × List TEdge)) : List Int := rows.foldl (fun cs p => cs ++ [cstep cs p]) []
def rowsOf (g : TGraph) : List (Bool × List TEdge) := g.Final.zip g.Edges

theorem counts_snoc {rows : List (Bool × List TEdge)} {p : Bool × List TEdge} : counts (rows ++ [p]) = counts rows ++ [cstep (counts rows) p] := by simp [counts]
theorem counts_len (rows : List (Bool × List TEdge)) : (counts rows).length = rows.length := by
  induction rows using snoc_ind with
  | h0 => rfl
  | h1 rows p ih => rw [counts_snoc]; simp [ih]
theorem mn_le {a b : Int} : mn a b ≤ b ∧ mn a b ≤ a := by unfold mn; split <;> omega
theorem mn_ge {a b c : Int} (h1 : c ≤ a) (h2 : c ≤ b) : c ≤ mn a b := by unfold mn; split <;> omega
theorem getD_bound {cs : List Int} (hc : ∀ c ∈ cs, 0 ≤ c ∧ c ≤ cap) (i : Nat) : 0 ≤ cs.getD i 0 ∧ cs.getD i 0 ≤ cap := by
  rw [List.getD_eq_getElem?_getD]
  cases h : cs[i]? with
  | none => simp [cap]
  | some c => simpa using hc c (List.mem_of_getElem? h)
theorem crow_bound {cs : List Int} (hc : ∀ c ∈ cs, 0 ≤ c ∧ c ≤ cap) : ∀ (xs : List TEdge) {n : Int}, 0 ≤ n → n ≤ cap → 0 ≤ crow cs n xs ∧ crow cs n xs ≤ cap
  | [], n, h1, h2 => ⟨h1, h2⟩
  | x :: xs, n, h1, h2 => by
    have hb := getD_bound hc x.To.toNat
    exact crow_bound hc xs (mn_ge (by omega) (by simp [cap])) mn_le.1
theorem counts_bound (rows : List (Bool × List TEdge)) : ∀ c ∈ counts rows, 0 ≤ c ∧ c ≤ cap := by
  induction rows using snoc_ind with
  | h0 => intro c hc; simp [counts] at hc
  | h1 rows p ih =>
    intro c hc
    rw [counts_snoc] at hc
    rcases List.mem_append.1 hc with hc | hc
    · exact ih c hc
    · simp at hc; subst hc
      exact crow_bound ih _ (by split <;> omega) (by split <;> simp [cap])
theorem counts_take (rows : List (Bool × List TEdge)) (s : Nat) : counts (rows.take s) = (counts rows).take s := by
  induction rows using snoc_ind with
  | h0 => simp [counts]
  | h1 rows p ih =>
    by_cases h : s ≤ rows.length
    · rw [List.take_append_of_le_length h, ih, counts_snoc, List.take_append_of_le_length (by rw [counts_len]; exact h)]
    · rw [List.take_of_length_le (by simp; omega), List.take_of_length_le (by rw [counts_len]; simp; omega)]
theorem rows_at {g : TGraph} {s : Nat} {f : Bool} {xs : List TEdge} (h1 : g.Final[s]? = some f) (h2 : g.Edges[s]? = some xs) : (rowsOf g)[s]? = some (f, xs) := by
  simp [rowsOf, List.zip, List.getElem?_zipWith, h1, h2]
theorem rows_len {g : TGraph} (h : g.Edges.length = g.Final.length) : (rowsOf g).length = g.Final.length := by simp [rowsOf, h]
theorem take_snoc {α : Type} {l : List α} {s : Nat} {x : α} (h : l[s]? = some x) : l.take (s + 1) = l.take s ++ [x] := by
  rw [List.take_add_one, h]; rfl
theorem counts_next {g : TGraph} {s : Nat} {f : Bool} {xs : List TEdge} (h1 : g.Final[s]? = some f) (h2 : g.Edges[s]? = some xs) : counts ((rowsOf g).take (s + 1)) = counts ((rowsOf g).take s) ++ [crow (counts ((rowsOf g).take s)) (if f then 1 else 0) xs] := by
  rw [take_snoc (rows_at h1 h2), counts_snoc]; rfl
theorem crow_snoc {cs : List Int} {n : Int} {xs : List TEdge} {x : TEdge} : crow cs n (xs ++ [x]) = mn (crow cs n xs + cs.getD x.To.toNat 0) cap := by simp [crow]

/-- The document's Count. -/
theorem ref_Count_row {g : TGraph} {s : Nat} {xs : List TEdge} {f : Bool} (hg : g.Edges[s]? = some xs) (hf : g.Final[s]? = some f) (hs : s < 65536) (hl : xs.length ≤ 140737488355328) (hr : RowOk s xs) (hlen : s ≤ (rowsOf g).length) {n : Int} (hn : n = if f then 1 else 0) :
    Loop (scansionref17_Count.b2 g (counts ((rowsOf g).take s)) s) (n, 0) = some (.next (counts ((rowsOf g).take (s + 1)), ((s + 1 : Nat) : Int))) := by
  have hcl : (counts ((rowsOf g).take s)).length = s := by rw [counts_len]; simp; omega
  have hcb := counts_bound ((rowsOf g).take s)
  generalize hcs : counts ((rowsOf g).take s) = cs at *
  have := Loop_run (b := scansionref17_Count.b2 g cs s) (fun k => (crow cs n (xs.take k), (k : Int))) (i := 0) (n := xs.length) (Nat.zero_le _) (fun k _ hk => by
    have hx : xs[k]? = some xs[k] := List.getElem?_eq_getElem hk
    have hok := hr k hk _ hx
    have hb := crow_bound hcb (xs.take k) (n := n) (by rw [hn]; split <;> omega) (by rw [hn]; split <;> simp [cap])
    have hc : cs[xs[k].To.toNat]? = some (cs[xs[k].To.toNat]'(by omega)) := List.getElem?_eq_getElem _
    have hgd : cs.getD xs[k].To.toNat 0 = cs[xs[k].To.toNat]'(by omega) := by rw [List.getD_eq_getElem?_getD, hc]; rfl
    have hb2 := getD_bound hcb xs[k].To.toNat
    rw [scansionref17_Count.b2, idx_nat, hg, Option.bind_some, if_pos (by simp; omega), idx_nat, hx, Option.bind_some, idx_some hok.1 hc, Option.bind_some, w64s (by omega), take_snoc hx, crow_snoc, hgd]
    rw [hgd] at hb2
    simp only [cap] at hb hb2
    rw [w64 (by omega) (by omega)]
    rfl)
  simp only [List.take_zero, List.take_length] at this
  have e0 : crow cs n [] = n := rfl
  rw [e0] at this
  rw [show ((0 : Nat) : Int) = 0 from rfl] at this
  rw [this]
  apply Loop_end
  rw [scansionref17_Count.b2, idx_nat, hg, Option.bind_some, if_neg (by simp)]
  unfold scansionref17_Count.k4 scansionref17_Count.k2
  rw [room_ok (by omega), Option.bind_some, w64s (by omega), counts_next hf hg, hcs, hn]
theorem ref_Count_eq {g : TGraph} (hs : Short g) (hr : RightP g) : scansionref17_Count g = some (counts (rowsOf g), 0) := by
  unfold scansionref17_Count
  rw [ref_Right_eq hs, Option.bind_some, if_neg (by simp [hr])]
  have hl := rows_len hr.len
  have := Loop_run (b := scansionref17_Count.b1 g) (fun s => (counts ((rowsOf g).take s), (s : Int))) (i := 0) (n := g.Final.length) (Nat.zero_le _) (fun s _ hlt => by
    have h1 : g.Final[s]? = some g.Final[s] := List.getElem?_eq_getElem hlt
    have h2 : g.Edges[s]? = some (g.Edges[s]'(by have := hr.len; omega)) := List.getElem?_eq_getElem _
    have hrow := hr.rows s (by have := hr.len; omega) _ h2
    have hi := hr.hi
    rw [scansionref17_Count.b1, if_pos (by simp; omega), idx_nat, h1, Option.bind_some]
    split
    · rename_i hf
      exact ref_Count_row h2 h1 (by omega) (hs _ (List.getElem_mem _)) hrow (by omega) (by simp [hf])
    · rename_i hf
      exact ref_Count_row h2 h1 (by omega) (hs _ (List.getElem_mem _)) hrow (by omega) (by simp [hf]))
  simp only [List.take_zero] at this
  rw [show ((0 : Nat) : Int) = 0 from rfl] at this
  rw [show counts [] = [] from rfl] at this
  rw [this]
  apply Loop_end
  rw [scansionref17_Count.b1, if_neg (by simp)]
  unfold scansionref17_Count.k1
  rw [List.take_of_length_le (by omega)]
theorem ref_Count_bad {g : TGraph} (hs : Short g) (hr : ¬ RightP g) : scansionref17_Count g = some ([], 1) := by
  unfold scansionref17_Count
  rw [ref_Right_eq hs, Option.bind_some, if_pos (by simp [hr])]

/-- The program's Count: the list is there from the first, and filled. -/
def filled (cs : List Int) (n : Nat) : List Int := cs ++ List.replicate (n - cs.length) 0
theorem filled_get {cs : List Int} {n i : Nat} (h : i < cs.length) : (filled cs n)[i]? = some cs[i] := by
  simp [filled, List.getElem?_append_left h, List.getElem?_eq_getElem h]
theorem filled_set {cs : List Int} {n : Nat} {v : Int} (h : cs.length < n) (m : Int) : (cs ++ m :: List.replicate (n - cs.length - 1) 0).set cs.length v = cs ++ v :: List.replicate (n - cs.length - 1) 0 := by
  rw [List.set_append_right _ _ (Nat.le_refl _)]; simp
theorem filled_eq {cs : List Int} {n : Nat} (h : cs.length < n) : filled cs n = cs ++ 0 :: List.replicate (n - cs.length - 1) 0 := by
  unfold filled
  obtain ⟨m, hm⟩ : ∃ m, n - cs.length = m + 1 := ⟨n - cs.length - 1, by omega⟩
  rw [hm]; simp [List.replicate_succ]
theorem filled_snoc {cs : List Int} {n : Nat} {v : Int} (h : cs.length < n) : cs ++ v :: List.replicate (n - cs.length - 1) 0 = filled (cs ++ [v]) n := by
  unfold filled
  simp only [List.length_append, List.length_cons, List.length_nil, List.append_assoc, List.cons_append, List.nil_append]
  congr 3
theorem dawg_Count_row {g : TGraph} {s N : Nat} {xs : List TEdge} {f : Bool} (hg : g.Edges[s]? = some xs) (hf : g.Final[s]? = some f) (hs : s < N) (hN : N ≤ 65536) (hl : xs.length ≤ 140737488355328) (hr : RowOk s xs) (hlen : s ≤ (rowsOf g).length) {n : Int} (hn : n = if f then 1 else 0) {cs : List Int} (hcs : counts ((rowsOf g).take s) = cs) :
    Loop (dawg_Count.b2 s xs) (cs ++ n :: List.replicate (N - cs.length - 1) 0, 0) = some (.next (filled (counts ((rowsOf g).take (s + 1))) N, ((s + 1 : Nat) : Int))) := by
  have hcl : cs.length = s := by rw [← hcs, counts_len]; simp; omega
  have hcb : ∀ c ∈ cs, 0 ≤ c ∧ c ≤ cap := by rw [← hcs]; exact counts_bound _
  have := Loop_run (b := dawg_Count.b2 s xs) (fun k => (cs ++ crow cs n (xs.take k) :: List.replicate (N - cs.length - 1) 0, (k : Int))) (i := 0) (n := xs.length) (Nat.zero_le _) (fun k _ hk => by
    have hx : xs[k]? = some xs[k] := List.getElem?_eq_getElem hk
    have hok := hr k hk _ hx
    have hb := crow_bound hcb (xs.take k) (n := n) (by rw [hn]; split <;> omega) (by rw [hn]; split <;> simp [cap])
    have hc : cs[xs[k].To.toNat]? = some (cs[xs[k].To.toNat]'(by omega)) := List.getElem?_eq_getElem _
    have hgd : cs.getD xs[k].To.toNat 0 = cs[xs[k].To.toNat]'(by omega) := by rw [List.getD_eq_getElem?_getD, hc]; rfl
    have hb2 := getD_bound hcb xs[k].To.toNat
    have r1 : (cs ++ crow cs n (xs.take k) :: List.replicate (N - cs.length - 1) 0)[s]? = some (crow cs n (xs.take k)) := by
      rw [List.getElem?_append_right (by omega), hcl, Nat.sub_self]; rfl
    have r2 : (cs ++ crow cs n (xs.take k) :: List.replicate (N - cs.length - 1) 0)[xs[k].To.toNat]? = some (cs[xs[k].To.toNat]'(by omega)) := by
      rw [List.getElem?_append_left (by omega)]; exact hc
    rw [dawg_Count.b2, if_pos (by simp; omega), idx_nat, hx, Option.bind_some, idx_nat, r1, Option.bind_some, idx_some hok.1 r2, Option.bind_some, w64s (by omega), take_snoc hx, crow_snoc, hgd]
    rw [hgd] at hb2
    simp only [cap] at hb hb2
    rw [w64 (by omega) (by omega), Int.toNat_natCast]
    have e : ∀ v, (cs ++ crow cs n (List.take k xs) :: List.replicate (N - cs.length - 1) 0).set s v = cs ++ v :: List.replicate (N - cs.length - 1) 0 := fun v => by
      have := filled_set (cs := cs) (n := N) (v := v) (by omega) (crow cs n (List.take k xs))
      rwa [hcl] at this ⊢
    rw [e]
    rfl)
  simp only [List.take_zero, List.take_length] at this
  have e0 : crow cs n [] = n := rfl
  rw [e0, show ((0 : Nat) : Int) = 0 from rfl] at this
  rw [this]
  apply Loop_end
  rw [dawg_Count.b2, if_neg (by simp)]
  unfold dawg_Count.k2
  rw [w64s (by omega), counts_next hf hg, hcs, ← hn, filled_snoc (by omega)]
theorem dawg_Count_eq {g : TGraph} (hs : Short g) (hr : RightP g) : dawg_Count g = some (counts (rowsOf g), 0) := by
  unfold dawg_Count
  have hl := rows_len hr.len
  have hi := hr.hi
  rw [dawg_Right_eq hs, Option.bind_some, if_neg (by simp [hr]), mk_ok (by omega), Option.bind_some]
  have := Loop_run (b := dawg_Count.b1 g) (fun s => (filled (counts ((rowsOf g).take s)) g.Final.length, (s : Int))) (i := 0) (n := g.Final.length) (Nat.zero_le _) (fun s _ hlt => by
    have h1 : g.Final[s]? = some g.Final[s] := List.getElem?_eq_getElem hlt
    have h2 : g.Edges[s]? = some (g.Edges[s]'(by have := hr.len; omega)) := List.getElem?_eq_getElem _
    have hrow := hr.rows s (by have := hr.len; omega) _ h2
    have hcl : (counts ((rowsOf g).take s)).length = s := by rw [counts_len]; simp; omega
    have hfe := filled_eq (cs := counts ((rowsOf g).take s)) (n := g.Final.length) (by omega)
    rw [dawg_Count.b1, if_pos (by have := hr.len; simp; omega), idx_nat, h2, Option.bind_some, idx_nat, h1, Option.bind_some]
    split
    · rename_i hf
      have h3 : (filled (counts ((rowsOf g).take s)) g.Final.length)[s]? = some 0 := by
        rw [hfe, List.getElem?_append_right (by omega), hcl, Nat.sub_self]; rfl
      rw [idx_nat, h3, Option.bind_some, Int.toNat_natCast, hfe]
      have e := filled_set (cs := counts ((rowsOf g).take s)) (n := g.Final.length) (v := 1) (by omega) 0
      rw [hcl] at e
      unfold dawg_Count.k3
      rw [hcl, e]
      have := dawg_Count_row (N := g.Final.length) h2 h1 hlt hi (hs _ (List.getElem_mem _)) hrow (by omega) (n := 1) (by simp [hf]) rfl
      rwa [hcl] at this
    · rename_i hf
      unfold dawg_Count.k3
      rw [hfe]
      exact dawg_Count_row (N := g.Final.length) h2 h1 hlt hi (hs _ (List.getElem_mem _)) hrow (by omega) (n := 0) (by simp [hf]) rfl)
  have e0 : filled (counts ((rowsOf g).take 0)) g.Final.length = List.replicate (Int.toNat (g.Final.length : Int)) 0 := by simp [filled, counts]
  simp only [e0] at this
  rw [show ((0 : Nat) : Int) = 0 from rfl] at this
  rw [this]
  apply Loop_end
  rw [dawg_Count.b1, if_neg (by have := hr.len; simp; omega)]
  unfold dawg_Count.k1
  rw [List.take_of_length_le (by omega)]
  simp [filled, counts_len, hl]
theorem dawg_Count_bad {g : TGraph} (hs : Short g) (hr : ¬ RightP g) : dawg_Count g = some ([], 1) := by
  unfold dawg_Count
  rw [dawg_Right_eq hs, Option.bind_some, if_pos (by simp [hr])]
end Go.Val

/- part P4 -/
/- Plain lemmas: a state has as many ends as those that it leads to (DawgSum). -/
namespace Go.Val
set_option linter.unusedVariables false
theorem Few_eq (g : TGraph) (m : Nat) (hm : m ≤ 1000) : ∃ b, scansionref17_Few g m = some b ∧ (b = true → g.Final.length ≤ m ∧ g.Edges.length ≤ m ∧ ∀ xs ∈ g.Edges, xs.length ≤ 300) := by
  unfold scansionref17_Few
  split
  · exact ⟨false, rfl, fun h => by cases h⟩
  · rename_i h
    simp at h
    obtain ⟨k1, k2⟩ := Loop_all0 (b := scansionref17_Few.b1 g) (fun s => ∀ xs, g.Edges[s]? = some xs → xs.length ≤ 300) g.Edges.length (r := false) (R := true) (fun s hlt hp => by
        have hx : g.Edges[s]? = some g.Edges[s] := List.getElem?_eq_getElem hlt
        have := hp _ hx
        unfold scansionref17_Few.b1
        rw [if_pos (by simp; omega), idx_nat, hx, Option.bind_some, if_neg (by simp; omega), w64s (by omega)])
      (fun s hlt hp => by
        have hx : g.Edges[s]? = some g.Edges[s] := List.getElem?_eq_getElem hlt
        have : ¬ g.Edges[s].length ≤ 300 := fun h => hp fun xs he => by rw [hx] at he; cases he; exact h
        unfold scansionref17_Few.b1
        rw [if_pos (by simp; omega), idx_nat, hx, Option.bind_some, if_pos (by simp; omega)])
      (by unfold scansionref17_Few.b1; rw [if_neg (by simp)]; rfl)
    by_cases hall : ∀ s, s < g.Edges.length → ∀ xs, g.Edges[s]? = some xs → xs.length ≤ 300
    · exact ⟨true, k1 hall, fun _ => ⟨by omega, by omega, fun xs hx => by
        obtain ⟨i, hi⟩ := List.getElem?_of_mem hx
        exact hall i (List.getElem?_eq_some_iff.1 hi).1 xs hi⟩⟩
    · exact ⟨false, k2 hall, fun h => by cases h⟩
def sumTo (cs : List Int) (n : Int) (xs : List TEdge) : Int := xs.foldl (fun n x => n + cs.getD x.To.toNat 0) n
theorem sumTo_snoc {cs : List Int} {n : Int} {xs : List TEdge} {x : TEdge} : sumTo cs n (xs ++ [x]) = sumTo cs n xs + cs.getD x.To.toNat 0 := by simp [sumTo]
theorem sumTo_bound {cs : List Int} (hc : ∀ c ∈ cs, 0 ≤ c ∧ c ≤ cap) {n : Int} (h1 : 0 ≤ n) (h2 : n ≤ 1) (xs : List TEdge) : 0 ≤ sumTo cs n xs ∧ sumTo cs n xs ≤ 1 + xs.length * cap := by
  induction xs using snoc_ind with
  | h0 => simp [sumTo]; omega
  | h1 xs x ih =>
    rw [sumTo_snoc]
    have := getD_bound hc x.To.toNat
    simp only [List.length_append, List.length_cons, List.length_nil, cap] at *
    omega
theorem crow_sum {cs : List Int} (hc : ∀ c ∈ cs, 0 ≤ c ∧ c ≤ cap) {n : Int} (h1 : 0 ≤ n) (h2 : n ≤ 1) (xs : List TEdge) : crow cs n xs = mn (sumTo cs n xs) cap := by
  induction xs using snoc_ind with
  | h0 =>
    show n = mn n cap
    unfold mn cap; split <;> omega
  | h1 xs x ih =>
    rw [crow_snoc, sumTo_snoc, ih]
    have := getD_bound hc x.To.toNat
    have := sumTo_bound hc h1 h2 xs
    unfold mn
    repeat' split
    all_goals omega
theorem sumTo_congr {cs cs' : List Int} {xs : List TEdge} {n : Int} (h : ∀ x ∈ xs, cs.getD x.To.toNat 0 = cs'.getD x.To.toNat 0) : sumTo cs n xs = sumTo cs' n xs := by
  induction xs using snoc_ind with
  | h0 => rfl
  | h1 xs x ih => rw [sumTo_snoc, sumTo_snoc, ih fun y hy => h y (by simp [hy]), h x (by simp)]

theorem DawgSum_of (haw : scansionlaw17_awake = some true) (g : TGraph) : scansionlaw17_DawgSum g = some true := by
  unfold scansionlaw17_DawgSum
  obtain ⟨b, hb, hfew⟩ := Few_eq g 60 (by omega)
  rw [haw, Option.bind_some, show (60 : Int) = ((60 : Nat) : Int) from rfl, hb, Option.bind_some]
  cases b with
  | false => rfl
  | true =>
    obtain ⟨f1, f2, f3⟩ := hfew rfl
    have hs : Short g := fun xs hx => by have := f3 xs hx; omega
    rw [if_neg (by simp)]
    by_cases hr : RightP g
    · rw [dawg_Count_eq hs hr, Option.bind_some, if_neg (by simp)]
      have hl := rows_len hr.len
      have hcl : (counts (rowsOf g)).length = g.Final.length := by rw [counts_len, hl]
      have hcb := counts_bound (rowsOf g)
      generalize hcs : counts (rowsOf g) = cs at hcl hcb
      have := Loop_int (b := scansionlaw17_DawgSum.b1 g (cs, 0)) (i := 0) (n := cs.length) (Nat.zero_le _) (fun s _ hlt => by
        have h1 : g.Final[s]? = some (g.Final[s]'(by omega)) := List.getElem?_eq_getElem _
        have h2 : g.Edges[s]? = some (g.Edges[s]'(by have := hr.len; omega)) := List.getElem?_eq_getElem _
        have hrow := hr.rows s (by have := hr.len; omega) _ h2
        have hlen := f3 _ (List.getElem_mem (by have := hr.len; omega : s < g.Edges.length))
        have hcs1 : cs[s]? = some (crow (counts ((rowsOf g).take s)) (if g.Final[s]'(by omega) = true then 1 else 0) (g.Edges[s]'(by have := hr.len; omega))) := by
          have := counts_next h1 h2
          have hk : counts ((rowsOf g).take (s + 1)) = cs.take (s + 1) := by rw [← hcs]; exact counts_take _ _
          rw [hk] at this
          have e := congrArg (fun l => l[s]?) this
          simp only [List.getElem?_take] at e
          rw [if_pos (by omega)] at e
          rw [e, List.getElem?_append_right (by rw [counts_len]; simp; omega)]
          rw [counts_len]; simp; rw [Nat.min_eq_left (by omega)]; simp
        have hsum : ∀ n : Int, 0 ≤ n → n ≤ 1 → cs[s]? = some (crow (counts ((rowsOf g).take s)) n (g.Edges[s]'(by have := hr.len; omega))) → scansionlaw17_DawgSum.k3 g (cs, 0) s n = some (.next ((s + 1 : Nat) : Int)) := fun n n0 n1 hcn => by
          unfold scansionlaw17_DawgSum.k3
          have hrun := Loop_run (b := scansionlaw17_DawgSum.b2 g (cs, 0) s) (fun k => (sumTo cs n ((g.Edges[s]'(by have := hr.len; omega)).take k), (k : Int))) (i := 0) (n := (g.Edges[s]'(by have := hr.len; omega)).length) (Nat.zero_le _) (fun k _ hk => by
            have hx : (g.Edges[s]'(by have := hr.len; omega))[k]? = some ((g.Edges[s]'(by have := hr.len; omega))[k]) := List.getElem?_eq_getElem hk
            have hok := hrow k hk _ hx
            have hc : cs[((g.Edges[s]'(by have := hr.len; omega))[k]).To.toNat]? = some (cs[((g.Edges[s]'(by have := hr.len; omega))[k]).To.toNat]'(by omega)) := List.getElem?_eq_getElem _
            have hgd : cs.getD ((g.Edges[s]'(by have := hr.len; omega))[k]).To.toNat 0 = cs[((g.Edges[s]'(by have := hr.len; omega))[k]).To.toNat]'(by omega) := by rw [List.getD_eq_getElem?_getD, hc]; rfl
            have hb1 := sumTo_bound hcb n0 n1 ((g.Edges[s]'(by have := hr.len; omega)).take k)
            have hb2 := getD_bound hcb ((g.Edges[s]'(by have := hr.len; omega))[k]).To.toNat
            have hlt : ((g.Edges[s]'(by have := hr.len; omega)).take k).length ≤ 300 := by simp; omega
            rw [scansionlaw17_DawgSum.b2, idx_nat, h2, Option.bind_some, if_pos (by simp; omega), idx_nat, hx, Option.bind_some, idx_some hok.1 hc, Option.bind_some, w64s (by omega), take_snoc hx, sumTo_snoc, hgd]
            rw [hgd] at hb2
            simp only [cap] at hb1 hb2
            rw [w64 (by omega) (by omega)])
          simp only [List.take_zero, List.take_length] at hrun
          rw [show ((0 : Nat) : Int) = 0 from rfl, show sumTo cs n [] = n from rfl] at hrun
          rw [hrun]
          apply Loop_end
          rw [scansionlaw17_DawgSum.b2, idx_nat, h2, Option.bind_some, if_neg (by simp)]
          unfold scansionlaw17_DawgSum.k4
          rw [idx_nat, hcn, Option.bind_some, if_neg]
          · unfold scansionlaw17_DawgSum.k2; rw [w64s (by omega)]
          · have hpre := counts_bound ((rowsOf g).take s)
            rw [crow_sum hpre n0 n1]
            have : sumTo (counts ((rowsOf g).take s)) n (g.Edges[s]'(by have := hr.len; omega)) = sumTo cs n (g.Edges[s]'(by have := hr.len; omega)) := sumTo_congr fun x hx => by
              obtain ⟨k, hk⟩ := List.getElem?_of_mem hx
              have hok := hrow k (List.getElem?_eq_some_iff.1 hk).1 _ hk
              rw [counts_take, hcs, List.getD_eq_getElem?_getD, List.getD_eq_getElem?_getD, List.getElem?_take, if_pos (by omega)]
            rw [this]; simp [cap]
        unfold scansionlaw17_DawgSum.b1
        rw [if_pos (by simp; omega), idx_nat, h1, Option.bind_some]
        split
        · rename_i hf
          exact hsum 1 (by omega) (by omega) (by rw [hcs1, if_pos hf])
        · rename_i hf
          exact hsum 0 (by omega) (by omega) (by rw [hcs1, if_neg hf]))
      rw [show ((0 : Nat) : Int) = 0 from rfl] at this
      rw [this]
      apply Loop_end
      unfold scansionlaw17_DawgSum.b1
      rw [if_neg (by simp)]
      unfold scansionlaw17_DawgSum.k1
      simp [hcl]
    · rw [dawg_Count_bad hs hr, Option.bind_some, if_pos (by simp), if_pos (by simp), dawg_Right_eq hs]
      simp [hr]
end Go.Val

/- part P5 -/
/- Plain lemmas: looking for one in a list; keys; the two words of 'awake'. -/
namespace Go.Val
set_option linter.unusedVariables false
def find {α : Type} (g : α → Bool) (l : List α) : Int := if l.findIdx g < l.length then (l.findIdx g : Int) else -1
theorem IndexFunc_str {s : List Str} {f : Str → Option Bool} {g : Str → Bool} (hf : ∀ x ∈ s, f x = some (g x)) (hl : s.length ≤ 140737488355328) : slices_IndexFunc_string_string s f = some (find g s) := by
  unfold slices_IndexFunc_string_string
  have hle : s.findIdx g ≤ s.length := List.findIdx_le_length
  have := Loop_int (b := slices_IndexFunc_string_string.b1 s f) (i := 0) (n := s.findIdx g) (Nat.zero_le _) (fun j _ hj => by
    have hlt : j < s.length := by omega
    have hx : s[j]? = some s[j] := List.getElem?_eq_getElem hlt
    have hg : g s[j] = false := by simpa using List.not_of_lt_findIdx hj
    rw [slices_IndexFunc_string_string.b1, if_pos (by simp; omega), idx_nat, hx, Option.bind_some, hf _ (List.getElem_mem _), Option.bind_some, if_neg (by simp [hg]), w64s (by omega)])
  rw [show ((0 : Nat) : Int) = 0 from rfl] at this
  rw [this]
  unfold find
  by_cases h : s.findIdx g < s.length
  · rw [if_pos h]
    apply Loop_done
    have hx : s[s.findIdx g]? = some s[s.findIdx g] := List.getElem?_eq_getElem h
    have hg : g s[s.findIdx g] = true := List.findIdx_getElem
    rw [slices_IndexFunc_string_string.b1, if_pos (by rw [decide_eq_true_eq]; omega), idx_nat, hx, Option.bind_some, hf _ (List.getElem_mem _), Option.bind_some, if_pos hg]
  · rw [if_neg h]
    apply Loop_done
    rw [slices_IndexFunc_string_string.b1, if_neg (by rw [decide_eq_true_eq]; omega)]
    rfl
theorem IndexFunc_edge {s : List TEdge} {f : TEdge → Option Bool} {g : TEdge → Bool} (hf : ∀ x ∈ s, f x = some (g x)) (hl : s.length ≤ 140737488355328) : slices_IndexFunc_api_Edge_api_Edge s f = some (find g s) := by
  unfold slices_IndexFunc_api_Edge_api_Edge
  have hle : s.findIdx g ≤ s.length := List.findIdx_le_length
  have := Loop_int (b := slices_IndexFunc_api_Edge_api_Edge.b1 s f) (i := 0) (n := s.findIdx g) (Nat.zero_le _) (fun j _ hj => by
    have hlt : j < s.length := by omega
    have hx : s[j]? = some s[j] := List.getElem?_eq_getElem hlt
    have hg : g s[j] = false := by simpa using List.not_of_lt_findIdx hj
    rw [slices_IndexFunc_api_Edge_api_Edge.b1, if_pos (by simp; omega), idx_nat, hx, Option.bind_some, hf _ (List.getElem_mem _), Option.bind_some, if_neg (by simp [hg]), w64s (by omega)])
  rw [show ((0 : Nat) : Int) = 0 from rfl] at this
  rw [this]
  unfold find
  by_cases h : s.findIdx g < s.length
  · rw [if_pos h]
    apply Loop_done
    have hx : s[s.findIdx g]? = some s[s.findIdx g] := List.getElem?_eq_getElem h
    have hg : g s[s.findIdx g] = true := List.findIdx_getElem
    rw [slices_IndexFunc_api_Edge_api_Edge.b1, if_pos (by rw [decide_eq_true_eq]; omega), idx_nat, hx, Option.bind_some, hf _ (List.getElem_mem _), Option.bind_some, if_pos hg]
  · rw [if_neg h]
    apply Loop_done
    rw [slices_IndexFunc_api_Edge_api_Edge.b1, if_neg (by rw [decide_eq_true_eq]; omega)]
    rfl
/-- A key's bytes of an edge. -/
def kb (x : TEdge) : List UInt8 := [x.Label, u8 (IntKind.u8.wrap (shR .i64 x.To 24)), u8 (IntKind.u8.wrap (shR .i64 x.To 16)), u8 (IntKind.u8.wrap (shR .i64 x.To 8)), u8 (IntKind.u8.wrap x.To)]
def keyOf (f : Bool) (es : List TEdge) : List UInt8 := (if f then 1 else 0) :: es.flatMap kb
theorem key_loop {es : List TEdge} {out : List UInt8} (ho : out.length = 1) (hl : es.length ≤ 1000000) : dawg_key.k1 es out = some (out ++ es.flatMap kb) := by
  unfold dawg_key.k1
  have hlen : ∀ k, k ≤ es.length → (out ++ (es.take k).flatMap kb).length = 1 + 5 * k := fun k hk => by
    rw [List.length_append, ho]
    have : ∀ l : List TEdge, (l.flatMap kb).length = 5 * l.length := by
      intro l
      induction l with
      | nil => rfl
      | cons x l ih => simp [kb] at ih ⊢; omega
    rw [this, List.length_take, Nat.min_eq_left hk]
  have := Loop_run (b := dawg_key.b1 es) (fun k => (out ++ (es.take k).flatMap kb, (k : Int))) (i := 0) (n := es.length) (Nat.zero_le _) (fun k _ hk => by
    have hx : es[k]? = some es[k] := List.getElem?_eq_getElem hk
    rw [dawg_key.b1, if_pos (by simp; omega), idx_nat, hx, Option.bind_some, room_ok (by rw [hlen k (by omega)]; omega), Option.bind_some, w64s (by omega), take_snoc hx]
    simp only [List.flatMap_append, List.flatMap_cons, List.flatMap_nil, List.append_nil, kb, List.append_assoc])
  simp only [List.take_zero, List.take_length, List.flatMap_nil, List.append_nil] at this
  rw [show ((0 : Nat) : Int) = 0 from rfl] at this
  rw [this]
  apply Loop_end
  rw [dawg_key.b1, if_neg (by simp)]
  rfl
theorem key_eq {f : Bool} {es : List TEdge} (hl : es.length ≤ 1000000) : dawg_key f es = some (keyOf f es) := by
  unfold dawg_key
  cases f with
  | true =>
    rw [if_pos rfl]
    simp only [List.getElem?_cons_zero, Option.bind_some]
    rw [key_loop (by simp) hl]
    rfl
  | false =>
    rw [if_neg (by simp), key_loop rfl hl]
    rfl

/-! ### two words -/
def wA : Str := [97, 98]
def wB : Str := [99, 98]
theorem find_neg {α : Type} {g : α → Bool} {l : List α} {n : Int} (h : find g l = n) : find g l = n := h
theorem label_f {s : Str} {i : Nat} {c d : UInt8} (h : s[i]? = some d) : dawg_builder_state_1 s (i : Int) c = some ((d.toNat : Int) != (c.toNat : Int)) := by
  unfold dawg_builder_state_1; rw [idx_nat, h]; rfl
theorem st_end (k : Nat) (b : Tdawg_builder) (s : Str) (hs : s.length = 2) {i : Int} {b' : Tdawg_builder} (h : dawg_builder_state.k2 true [] b.Graph.Final b.Graph.Edges b.known = some (i, b')) : dawg_builder_state.r (k + 1) b [s] 2 = some (i, b') := by
  rw [dawg_builder_state.r]
  simp only [List.length_cons, List.length_nil, List.getElem?_cons_zero, Option.bind_some, hs]
  simp only [dawg_builder_state.k1, cutL]
  simp
  apply Loop_end
  rw [dawg_builder_state.b1, if_neg (by simp), h]
theorem st_one (k : Nat) (b b1 b2 : Tdawg_builder) (c : UInt8) {i j : Int} (h1 : dawg_builder_state.r (k + 1) b [[c, 98]] 2 = some (i, b1)) (h2 : dawg_builder_state.k2 false [⟨98, i⟩] b1.Graph.Final b1.Graph.Edges b1.known = some (j, b2)) :
    dawg_builder_state.r (k + 2) b [[c, 98]] 1 = some (j, b2) := by
  rw [dawg_builder_state.r]
  have e1 : ((([[c, 98]] : List Str).length : Int) > 0) := by simp
  rw [if_pos (by simp)]
  simp only [List.getElem?_cons_zero, Option.bind_some]
  rw [if_neg (by simp)]
  unfold dawg_builder_state.k1
  have hf : slices_IndexFunc_string_string [[c, 98]] (fun x0 => dawg_builder_state_1 x0 1 98) = some (-1) := by
    rw [IndexFunc_str (g := fun _ => false) (fun x hx => by
      simp at hx; subst hx
      exact label_f (i := 1) (d := 98) rfl) (by simp)]
    rfl
  have step : dawg_builder_state.b1 (dawg_builder_state.r (k + 1)) 1 false ([[c, 98]], [], b.Graph.Final, b.Graph.Edges, b.known) = some (.next ([], [⟨98, i⟩], b1.Graph.Final, b1.Graph.Edges, b1.known)) := by
    rw [dawg_builder_state.b1, if_pos (by simp)]
    simp only [List.getElem?_cons_zero, Option.bind_some]
    rw [show (1 : Int) = ((1 : Nat) : Int) from rfl, idx_nat]
    simp only [List.getElem?_cons_succ, List.getElem?_cons_zero, Option.bind_some]
    rw [show ((1 : Nat) : Int) = 1 from rfl, hf, Option.bind_some, if_pos (by simp)]
    unfold dawg_builder_state.k4
    have ew : IntKind.i64.wrap (1 + 1) = 2 := by rw [w64] <;> omega
    simp only [List.length_cons, List.length_nil, cutH, cutL, ew]
    simp [h1, room_ok]
  change Loop (dawg_builder_state.b1 (dawg_builder_state.r (k + 1)) 1 false) _ = _
  rw [Loop_next step]
  apply Loop_end
  rw [dawg_builder_state.b1, if_neg (by simp), h2]
def bF : Tdawg_builder := ⟨⟨[true], [[]]⟩, [([1], 0)]⟩
def bG : Tdawg_builder := ⟨⟨[true, false], [[], [⟨98, 0⟩]]⟩, [([1], 0), ([0, 98, 0, 0, 0, 0], 1)]⟩
def bH : Tdawg_builder := ⟨⟨[true, false, false], [[], [⟨98, 0⟩], [⟨97, 1⟩, ⟨99, 1⟩]]⟩, [([1], 0), ([0, 98, 0, 0, 0, 0], 1), ([0, 97, 0, 0, 0, 1, 99, 0, 0, 0, 1], 2)]⟩
theorem kk1 : keyOf true [] = [1] := rfl
theorem kk2 : keyOf false [⟨98, 0⟩] = [0, 98, 0, 0, 0, 0] := by decide
theorem kk3 : keyOf false [⟨97, 1⟩, ⟨99, 1⟩] = [0, 97, 0, 0, 0, 1, 99, 0, 0, 0, 1] := by decide
theorem s1 : dawg_builder_state.k2 true [] [] [] [] = some (0, bF) := by
  unfold dawg_builder_state.k2
  rw [key_eq (by simp), Option.bind_some, kk1]
  simp [aget, room_ok, dawg_builder_state.k3, aput, bF]
theorem s2 : dawg_builder_state.k2 true [] bG.Graph.Final bG.Graph.Edges bG.known = some (0, bG) := by
  unfold dawg_builder_state.k2
  rw [key_eq (by simp), Option.bind_some, kk1]
  simp [aget, room_ok, dawg_builder_state.k3, aput, bG]
theorem s3 : dawg_builder_state.k2 false [⟨98, 0⟩] bF.Graph.Final bF.Graph.Edges bF.known = some (1, bG) := by
  unfold dawg_builder_state.k2
  rw [key_eq (by simp), Option.bind_some, kk2]
  simp [aget, room_ok, dawg_builder_state.k3, aput, bG, bF]
theorem s4 : dawg_builder_state.k2 false [⟨98, 0⟩] bG.Graph.Final bG.Graph.Edges bG.known = some (1, bG) := by
  unfold dawg_builder_state.k2
  rw [key_eq (by simp), Option.bind_some, kk2]
  simp [aget, room_ok, dawg_builder_state.k3, aput, bG, bF]
theorem s5 : dawg_builder_state.k2 false [⟨97, 1⟩, ⟨99, 1⟩] bG.Graph.Final bG.Graph.Edges bG.known = some (2, bH) := by
  unfold dawg_builder_state.k2
  rw [key_eq (by simp), Option.bind_some, kk3]
  simp [aget, room_ok, dawg_builder_state.k3, aput, bG, bH]
theorem stA (k : Nat) : dawg_builder_state.r (k + 2) ⟨⟨[], []⟩, []⟩ [wA] 1 = some (1, bG) := st_one k _ bF bG 97 (st_end k _ _ rfl s1) s3
theorem stB (k : Nat) : dawg_builder_state.r (k + 2) bG [wB] 1 = some (1, bG) := st_one k _ bG bG 99 (st_end k _ _ rfl s2) s4
theorem stAB (k : Nat) : dawg_builder_state.r (k + 3) ⟨⟨[], []⟩, []⟩ [wA, wB] 0 = some (2, bH) := by
  rw [dawg_builder_state.r]
  rw [if_pos (by simp)]
  simp only [List.getElem?_cons_zero, Option.bind_some]
  rw [if_neg (by simp [wA])]
  unfold dawg_builder_state.k1
  have hfA : slices_IndexFunc_string_string [wA, wB] (fun x0 => dawg_builder_state_1 x0 0 97) = some 1 := by
    rw [IndexFunc_str (g := fun s => s == wB) (fun x hx => by
      simp at hx
      rcases hx with rfl | rfl
      · exact label_f (i := 0) (d := 97) rfl
      · exact label_f (i := 0) (d := 99) rfl) (by simp)]
    rfl
  have hfB : slices_IndexFunc_string_string [wB] (fun x0 => dawg_builder_state_1 x0 0 99) = some (-1) := by
    rw [IndexFunc_str (g := fun s => false) (fun x hx => by
      simp at hx; subst hx
      exact label_f (i := 0) (d := 99) rfl) (by simp)]
    rfl
  have ew : IntKind.i64.wrap (0 + 1) = 1 := by rw [w64] <;> omega
  have step1 : dawg_builder_state.b1 (dawg_builder_state.r (k + 2)) 0 false ([wA, wB], [], [], [], []) = some (.next ([wB], [⟨97, 1⟩], bG.Graph.Final, bG.Graph.Edges, bG.known)) := by
    rw [dawg_builder_state.b1, if_pos (by simp)]
    simp only [List.getElem?_cons_zero, Option.bind_some]
    rw [show (0 : Int) = ((0 : Nat) : Int) from rfl, idx_nat, show wA[0]? = some 97 from rfl, Option.bind_some]
    rw [show ((0 : Nat) : Int) = 0 from rfl, hfA, Option.bind_some, if_neg (by simp)]
    unfold dawg_builder_state.k4
    simp only [List.length_cons, List.length_nil, cutH, cutL, ew]
    simp [stA, room_ok]
  have step2 : dawg_builder_state.b1 (dawg_builder_state.r (k + 2)) 0 false ([wB], [⟨97, 1⟩], bG.Graph.Final, bG.Graph.Edges, bG.known) = some (.next ([], [⟨97, 1⟩, ⟨99, 1⟩], bG.Graph.Final, bG.Graph.Edges, bG.known)) := by
    rw [dawg_builder_state.b1, if_pos (by simp)]
    simp only [List.getElem?_cons_zero, Option.bind_some]
    rw [show (0 : Int) = ((0 : Nat) : Int) from rfl, idx_nat, show wB[0]? = some 99 from rfl, Option.bind_some]
    rw [show ((0 : Nat) : Int) = 0 from rfl, hfB, Option.bind_some, if_pos (by simp)]
    unfold dawg_builder_state.k4
    have e : dawg_builder_state.r (k + 2) ⟨⟨bG.Graph.Final, bG.Graph.Edges⟩, bG.known⟩ [wB] 1 = some (1, bG) := stB k
    simp only [List.length_cons, List.length_nil, cutH, cutL, ew]
    simp [e, room_ok]
  change Loop (dawg_builder_state.b1 (dawg_builder_state.r (k + 2)) 0 false) _ = _
  rw [Loop_next step1, Loop_next step2]
  apply Loop_end
  rw [dawg_builder_state.b1, if_neg (by simp), s5]
theorem rise2 : dawg_rise [wA, wB] = some true := by
  unfold dawg_rise
  have step : dawg_rise.b1 [wA, wB] 1 = some (.next 2) := by
    unfold dawg_rise.b1
    have ew : IntKind.i64.wrap (1 - 1) = ((0 : Nat) : Int) := by rw [w64] <;> simp
    have ew2 : IntKind.i64.wrap (1 + 1) = 2 := by rw [w64] <;> omega
    rw [if_pos (by simp), ew, idx_nat, show (1 : Int) = ((1 : Nat) : Int) from rfl, idx_nat]
    simp only [List.getElem?_cons_succ, List.getElem?_cons_zero, Option.bind_some]
    rw [if_neg (by decide)]
    rw [show ((1 : Nat) : Int) = 1 from rfl, ew2]
  rw [Loop_next step]
  apply Loop_end
  unfold dawg_rise.b1
  rw [if_neg (by simp)]
  unfold dawg_rise.k1
  have hc : slices_ContainsFunc_string_string [wA, wB] dawg_rise_1 = some false := by
    unfold slices_ContainsFunc_string_string
    rw [IndexFunc_str (g := fun _ => false) (fun x hx => by
      simp at hx
      rcases hx with rfl | rfl <;> rfl) (by simp)]
    rfl
  simp [hc]
theorem Build2 : dawg_Build [wA, wB] = some (bH.Graph, 0) := by
  unfold dawg_Build
  have hs : dawg_builder_state ⟨⟨[], []⟩, []⟩ [wA, wB] 0 = some (2, bH) := lim_eq 3 fun k hk => by
    obtain ⟨j, rfl⟩ : ∃ j, k = j + 3 := ⟨k - 3, by omega⟩
    exact stAB j
  rw [rise2, Option.bind_some, if_neg (by simp), hs]
  rfl
theorem lab_f {x : TEdge} {s : Str} {i : Nat} {d : UInt8} (h : s[i]? = some d) : dawg_walk_1 x s (i : Int) = some ((x.Label.toNat : Int) == (d.toNat : Int)) := by
  unfold dawg_walk_1; rw [idx_nat, h]; rfl
theorem walk2 : dawg_walk bH.Graph wB = some ([2, 1, 0], true) := by
  unfold dawg_walk
  have ew : IntKind.i64.wrap ((bH.Graph.Final.length : Int) - 1) = 2 := by rw [w64] <;> simp [bH]
  have ew1 : IntKind.i64.wrap (0 + 1) = 1 := by rw [w64] <;> omega
  have ew2 : IntKind.i64.wrap (1 + 1) = 2 := by rw [w64] <;> omega
  have f1 : slices_IndexFunc_api_Edge_api_Edge [⟨97, 1⟩, ⟨99, 1⟩] (fun x0 => dawg_walk_1 x0 wB 0) = some 1 := by
    rw [IndexFunc_edge (f := fun x0 => dawg_walk_1 x0 wB 0) (g := fun x => (x.Label.toNat : Int) == ((99 : UInt8).toNat : Int)) (fun x hx => lab_f (s := wB) (i := 0) (d := 99) rfl) (by simp)]
    rfl
  have f2 : slices_IndexFunc_api_Edge_api_Edge [⟨98, 0⟩] (fun x0 => dawg_walk_1 x0 wB 1) = some 0 := by
    rw [IndexFunc_edge (f := fun x0 => dawg_walk_1 x0 wB 1) (g := fun x => (x.Label.toNat : Int) == ((98 : UInt8).toNat : Int)) (fun x hx => lab_f (s := wB) (i := 1) (d := 98) rfl) (by simp)]
    rfl
  have step1 : dawg_walk.b1 bH.Graph wB ([2], 0) = some (.next ([2, 1], 1)) := by
    rw [dawg_walk.b1, if_pos (by simp [wB])]
    rw [show idx ([2] : List Int) 0 = some 2 from rfl, Option.bind_some, show idx bH.Graph.Edges 2 = some [⟨97, 1⟩, ⟨99, 1⟩] from rfl, Option.bind_some, f1, Option.bind_some, if_neg (by simp), show idx ([⟨97, 1⟩, ⟨99, 1⟩] : List TEdge) 1 = some ⟨99, 1⟩ from rfl, Option.bind_some, room_ok (by simp), Option.bind_some, ew1]
    rfl
  have step2 : dawg_walk.b1 bH.Graph wB ([2, 1], 1) = some (.next ([2, 1, 0], 2)) := by
    rw [dawg_walk.b1, if_pos (by simp [wB])]
    rw [show idx ([2, 1] : List Int) 1 = some 1 from rfl, Option.bind_some, show idx bH.Graph.Edges 1 = some [⟨98, 0⟩] from rfl, Option.bind_some, f2, Option.bind_some, if_neg (by simp), show idx ([⟨98, 0⟩] : List TEdge) 0 = some ⟨98, 0⟩ from rfl, Option.bind_some, room_ok (by simp), Option.bind_some, ew2]
    rfl
  rw [ew, Loop_next step1, Loop_next step2]
  apply Loop_end
  rw [dawg_walk.b1, if_neg (by simp [wB])]
  rfl
theorem right2 : RightP bH.Graph where
  lo := by simp [bH]
  hi := by simp [bH]
  len := rfl
  rows := fun s hs xs hx k hk x hx2 => by
    have h3 : s < 3 := hs
    match s, h3 with
    | 0, _ => cases hx; simp at hk
    | 1, _ =>
      cases hx
      match k, hk with
      | 0, _ => cases hx2; exact ⟨by simp, by simp, fun h => by omega⟩
    | 2, _ =>
      cases hx
      match k, hk with
      | 0, _ => cases hx2; exact ⟨by simp, by simp, fun h => by omega⟩
      | 1, _ => cases hx2; exact ⟨by simp, by simp, fun _ x1 h1 => by cases h1; decide⟩
theorem Has2 : dawg_Has bH.Graph wB = some true := by
  unfold dawg_Has
  rw [dawg_Right_eq (fun xs hx => by
    simp [bH] at hx
    rcases hx with rfl | rfl | rfl <;> simp), Option.bind_some, if_neg (by simp [right2]), walk2]
  rfl
theorem awake17 : scansionlaw17_awake = some true := by
  unfold scansionlaw17_awake
  rw [show ([([97, 98] : Str), ([99, 98] : Str)]) = [wA, wB] from rfl, Build2, Option.bind_some]
  simp only [bH]
  simp
  have := Has2
  simp only [bH, wB] at this
  rw [this]
end Go.Val

/- part P6 -/
/- Plain lemmas: walks through a graph; Has. -/
namespace Go.Val
set_option linter.unusedVariables false
theorem lab_eq {a b : UInt8} : (((a.toNat : Int)) == (b.toNat : Int)) = (a == b) := by
  by_cases h : a = b
  · subst h; simp
  · have : a.toNat ≠ b.toNat := fun e => h (UInt8.toNat_inj.1 e)
    have h2 : ((a.toNat : Int)) ≠ (b.toNat : Int) := by omega
    rw [beq_eq_false_iff_ne.2 h, beq_eq_false_iff_ne.2 h2]
def isLab (c : UInt8) (x : TEdge) : Bool := x.Label == c
def nextS (g : TGraph) (s : Int) (c : UInt8) : Option Int := (g.Edges[s.toNat]?).bind fun xs => (xs[xs.findIdx (isLab c)]?).map TEdge.To
def runS (g : TGraph) : Int → Str → Option Int
  | s, [] => some s
  | s, c :: w => (nextS g s c).bind fun t => runS g t w
theorem runS_snoc {g : TGraph} {c : UInt8} : ∀ {w : Str} {s : Int}, runS g s (w ++ [c]) = (runS g s w).bind fun t => nextS g t c
  | [], s => by simp [runS]
  | d :: w, s => by
    simp only [List.cons_append, runS]
    cases nextS g s d with
    | none => rfl
    | some t => exact runS_snoc
/-- Where an edge leads lies below. -/
theorem next_ok {g : TGraph} (hr : RightP g) {s t : Int} {c : UInt8} (h0 : 0 ≤ s) (h1 : s < g.Final.length) (h : nextS g s c = some t) : 0 ≤ t ∧ t < s := by
  unfold nextS at h
  obtain ⟨xs, hx, h⟩ := Option.bind_eq_some_iff.1 h
  obtain ⟨x, hk, rfl⟩ := Option.map_eq_some_iff.1 h
  have hlt := (List.getElem?_eq_some_iff.1 hx).1
  have := hr.rows s.toNat hlt xs hx _ (List.getElem?_eq_some_iff.1 hk).1 x hk
  omega
theorem runS_ok {g : TGraph} (hr : RightP g) : ∀ {w : Str} {s t : Int}, 0 ≤ s → s < g.Final.length → runS g s w = some t → 0 ≤ t ∧ t < g.Final.length
  | [], s, t, h0, h1, h => by simp [runS] at h; omega
  | c :: w, s, t, h0, h1, h => by
    simp only [runS] at h
    obtain ⟨u, hu, h⟩ := Option.bind_eq_some_iff.1 h
    have := next_ok hr h0 h1 hu
    exact runS_ok hr (s := u) this.1 (by omega) h
theorem row_at {g : TGraph} (hr : RightP g) {s : Int} (h0 : 0 ≤ s) (h1 : s < g.Final.length) : ∃ xs, idx g.Edges s = some xs ∧ g.Edges[s.toNat]? = some xs ∧ xs ∈ g.Edges := by
  have hlt : s.toNat < g.Edges.length := by have := hr.len; omega
  have hx : g.Edges[s.toNat]? = some g.Edges[s.toNat] := List.getElem?_eq_getElem hlt
  exact ⟨_, idx_some h0 hx, hx, List.getElem_mem hlt⟩
theorem ref_to_eq {g : TGraph} (hs : Short g) (hr : RightP g) {s : Int} (h0 : 0 ≤ s) (h1 : s < g.Final.length) (c : UInt8) : scansionref17_to g s c = some ((nextS g s c).getD (-1)) := by
  obtain ⟨xs, hi, hx, hm⟩ := row_at hr h0 h1
  have hl := hs xs hm
  unfold scansionref17_to nextS
  rw [hx, Option.bind_some]
  have hle : xs.findIdx (isLab c) ≤ xs.length := List.findIdx_le_length
  have := Loop_int (b := scansionref17_to.b1 g s c) (i := 0) (n := xs.findIdx (isLab c)) (Nat.zero_le _) (fun j _ hj => by
    have hlt : j < xs.length := by omega
    have hj1 : xs[j]? = some xs[j] := List.getElem?_eq_getElem hlt
    have hg : isLab c xs[j] = false := by simpa using List.not_of_lt_findIdx hj
    unfold scansionref17_to.b1
    rw [hi, Option.bind_some, if_pos (by rw [decide_eq_true_eq]; omega), idx_nat, hj1, Option.bind_some, lab_eq, if_neg (by unfold isLab at hg; simp [hg]), w64s (by omega)])
  rw [show ((0 : Nat) : Int) = 0 from rfl] at this
  rw [this]
  by_cases h : xs.findIdx (isLab c) < xs.length
  · have hx1 : xs[xs.findIdx (isLab c)]? = some xs[xs.findIdx (isLab c)] := List.getElem?_eq_getElem h
    have hg : isLab c xs[xs.findIdx (isLab c)] = true := List.findIdx_getElem
    rw [hx1]
    apply Loop_done
    unfold scansionref17_to.b1
    rw [hi, Option.bind_some, if_pos (by rw [decide_eq_true_eq]; omega), idx_nat, hx1, Option.bind_some, lab_eq, if_pos (by unfold isLab at hg; exact hg)]
    rfl
  · rw [List.getElem?_eq_none (by omega)]
    apply Loop_done
    unfold scansionref17_to.b1
    rw [hi, Option.bind_some, if_neg (by rw [decide_eq_true_eq]; omega)]
    rfl
/-- Has: does a word end where it leads? -/
def hasS (g : TGraph) (w : Str) : Bool := ((runS g ((g.Final.length : Int) - 1) w).bind fun s => g.Final[s.toNat]?).getD false
theorem start_w {g : TGraph} (hr : RightP g) : IntKind.i64.wrap ((g.Final.length : Int) - 1) = (g.Final.length : Int) - 1 := by
  have := hr.lo; have := hr.hi; rw [w64 (by omega) (by omega)]
theorem final_at {g : TGraph} {s : Int} (h0 : 0 ≤ s) (h1 : s < g.Final.length) : ∃ b, idx g.Final s = some b ∧ g.Final[s.toNat]? = some b := by
  have hx : g.Final[s.toNat]? = some (g.Final[s.toNat]'(by omega)) := List.getElem?_eq_getElem _
  exact ⟨_, idx_some h0 hx, hx⟩
theorem run_take_next {g : TGraph} {s : Int} {w : Str} {k : Nat} {c : UInt8} (hc : w[k]? = some c) : runS g s (w.take (k + 1)) = (runS g s (w.take k)).bind fun t => nextS g t c := by
  rw [take_snoc hc, runS_snoc]
theorem run_take_none {g : TGraph} {s : Int} {w : Str} {k : Nat} (h : runS g s (w.take k) = none) : ∀ j, k ≤ j → runS g s (w.take j) = none := by
  intro j hj
  induction j with
  | zero => obtain rfl : k = 0 := by omega
            exact h
  | succ j ih =>
    by_cases e : k = j + 1
    · rw [← e]; exact h
    · have := ih (by omega)
      cases hc : w[j]? with
      | none => rw [List.take_of_length_le (by have := List.getElem?_eq_none_iff.1 hc; omega)]; rw [List.take_of_length_le (List.getElem?_eq_none_iff.1 hc)] at this; exact this
      | some c => rw [run_take_next hc, this]; rfl
/-- Either all of a word leads on, or there is a first place from which it doesn't. -/
theorem run_split (g : TGraph) (s : Int) (w : Str) : (∀ k, k ≤ w.length → ∃ t, runS g s (w.take k) = some t) ∨ ∃ k t c, k < w.length ∧ w[k]? = some c ∧ (∀ j, j ≤ k → ∃ t, runS g s (w.take j) = some t) ∧ runS g s (w.take k) = some t ∧ nextS g t c = none := by
  have key : ∀ n, n ≤ w.length → (∀ k, k ≤ n → ∃ t, runS g s (w.take k) = some t) ∨ ∃ k t c, k < n ∧ w[k]? = some c ∧ (∀ j, j ≤ k → ∃ t, runS g s (w.take j) = some t) ∧ runS g s (w.take k) = some t ∧ nextS g t c = none := by
    intro n
    induction n with
    | zero => intro _; exact .inl fun k hk => ⟨s, by obtain rfl : k = 0 := by omega
                                                     rfl⟩
    | succ n ih =>
      intro hn
      rcases ih (by omega) with h | ⟨k, t, c, h1, h2⟩
      · obtain ⟨t, ht⟩ := h n (Nat.le_refl _)
        have hc : w[n]? = some w[n] := List.getElem?_eq_getElem (by omega)
        cases hnx : nextS g t w[n] with
        | none => exact .inr ⟨n, t, w[n], by omega, hc, h, ht, hnx⟩
        | some u =>
          refine .inl fun k hk => ?_
          by_cases e : k = n + 1
          · subst e; exact ⟨u, by rw [run_take_next hc, ht]; exact hnx⟩
          · exact h k (by omega)
      · exact .inr ⟨k, t, c, by omega, h2⟩
  exact key w.length (Nat.le_refl _)
theorem ref_Has_eq {g : TGraph} (hs : Short g) (hr : RightP g) {w : Str} (hw : w.length ≤ 1000) : scansionref17_Has g w = some (hasS g w) := by
  unfold scansionref17_Has
  rw [ref_Right_eq hs, Option.bind_some, if_neg (by simp [hr]), start_w hr]
  have hst0 : 0 ≤ (g.Final.length : Int) - 1 := by have := hr.lo; omega
  have hst1 : (g.Final.length : Int) - 1 < g.Final.length := by omega
  have step : ∀ k t, k < w.length → runS g ((g.Final.length : Int) - 1) (w.take k) = some t → ∀ c, w[k]? = some c → scansionref17_Has.b1 g w (t, (k : Int)) = (match nextS g t c with | some u => some (.next (u, ((k + 1 : Nat) : Int))) | none => some (.done false)) := fun k t hk ht c hc => by
    have hb := runS_ok hr hst0 hst1 ht
    rw [scansionref17_Has.b1, if_pos (by rw [decide_eq_true_eq]; omega), idx_nat, hc, Option.bind_some, ref_to_eq hs hr hb.1 hb.2, Option.bind_some]
    cases hn : nextS g t c with
    | none => rfl
    | some u =>
      have := next_ok hr hb.1 hb.2 hn
      simp only [Option.getD_some]
      rw [if_neg (by rw [decide_eq_true_eq]; omega), w64s (by omega)]
  rcases run_split g ((g.Final.length : Int) - 1) w with hall | ⟨k, t, c, hk, hc, hpre, ht, hn⟩
  · have := Loop_run (b := scansionref17_Has.b1 g w) (fun k => ((runS g ((g.Final.length : Int) - 1) (w.take k)).getD 0, (k : Int))) (i := 0) (n := w.length) (Nat.zero_le _) (fun k _ hk => by
      obtain ⟨t, ht⟩ := hall k (by omega)
      obtain ⟨u, hu⟩ := hall (k + 1) (by omega)
      have hc : w[k]? = some w[k] := List.getElem?_eq_getElem hk
      have hn : nextS g t w[k] = some u := by rw [run_take_next hc, ht] at hu; exact hu
      simp only [ht, hu, Option.getD_some]
      rw [step k t hk ht _ hc, hn])
    simp only [List.take_zero, List.take_length, runS, Option.getD_some] at this
    rw [show ((0 : Nat) : Int) = 0 from rfl] at this
    rw [this]
    obtain ⟨t, ht⟩ := hall w.length (Nat.le_refl _)
    rw [List.take_length] at ht
    have hb := runS_ok hr hst0 hst1 ht
    obtain ⟨b, hb1, hb2⟩ := final_at hb.1 hb.2
    apply Loop_end
    rw [ht, Option.getD_some, scansionref17_Has.b1, if_neg (by rw [decide_eq_true_eq]; omega)]
    unfold scansionref17_Has.k1
    rw [hb1]
    simp [hasS, ht, hb2]
  · have := Loop_run (b := scansionref17_Has.b1 g w) (fun k => ((runS g ((g.Final.length : Int) - 1) (w.take k)).getD 0, (k : Int))) (i := 0) (n := k) (Nat.zero_le _) (fun j _ hj => by
      obtain ⟨t, ht⟩ := hpre j (by omega)
      obtain ⟨u, hu⟩ := hpre (j + 1) (by omega)
      have hc : w[j]? = some (w[j]'(by omega)) := List.getElem?_eq_getElem _
      have hn : nextS g t (w[j]'(by omega)) = some u := by rw [run_take_next hc, ht] at hu; exact hu
      simp only [ht, hu, Option.getD_some]
      rw [step j t (by omega) ht _ hc, hn])
    simp only [List.take_zero, runS, Option.getD_some, ht] at this
    rw [show ((0 : Nat) : Int) = 0 from rfl] at this
    rw [this]
    have hnone : runS g ((g.Final.length : Int) - 1) w = none := by
      have h1 : runS g ((g.Final.length : Int) - 1) (w.take (k + 1)) = none := by rw [run_take_next hc, ht]; exact hn
      have := run_take_none h1 w.length (by omega)
      rwa [List.take_length] at this
    rw [Loop_done (r := false) (by rw [step k t hk ht c hc, hn])]
    simp [hasS, hnone]
end Go.Val

/- part P7 -/
/- Plain lemmas: the farm's walk and Has. -/
namespace Go.Val
set_option linter.unusedVariables false
def stsS (g : TGraph) (s : Int) (w : Str) (j : Nat) : List Int := (List.range (j + 1)).map fun k => (runS g s (w.take k)).getD 0
theorem stsS_len {g : TGraph} {s : Int} {w : Str} {j : Nat} : (stsS g s w j).length = j + 1 := by simp [stsS]
theorem stsS_at {g : TGraph} {s : Int} {w : Str} {j k : Nat} {t : Int} (hk : k ≤ j) (h : runS g s (w.take k) = some t) : idx (stsS g s w j) (k : Int) = some t := by
  rw [idx_nat]
  unfold stsS
  rw [List.getElem?_map, List.getElem?_range (by omega)]
  simp [h]
theorem stsS_snoc {g : TGraph} {s : Int} {w : Str} {j : Nat} {t : Int} (h : runS g s (w.take (j + 1)) = some t) : stsS g s w (j + 1) = stsS g s w j ++ [t] := by
  unfold stsS
  rw [List.range_succ (n := j + 1), List.map_append]
  simp [h]
theorem walk_step {g : TGraph} (hs : Short g) (hr : RightP g) {w : Str} (hw : w.length ≤ 1000000) {s : Int} (h0 : 0 ≤ s) (h1 : s < g.Final.length) {k : Nat} {t : Int} {c : UInt8} (hk : k < w.length) (hc : w[k]? = some c) (ht : runS g s (w.take k) = some t) :
    dawg_walk.b1 g w (stsS g s w k, (k : Int)) = (match nextS g t c with | some u => some (.next (stsS g s w (k + 1), ((k + 1 : Nat) : Int))) | none => some (.done ([], false))) := by
  have hb := runS_ok hr h0 h1 ht
  obtain ⟨xs, hi, hx, hm⟩ := row_at hr hb.1 hb.2
  have hl := hs xs hm
  have hf : slices_IndexFunc_api_Edge_api_Edge xs (fun x0 => dawg_walk_1 x0 w (k : Int)) = some (find (isLab c) xs) :=
    IndexFunc_edge (fun x _ => by rw [lab_f hc, lab_eq]; rfl) hl
  have hlen : (stsS g s w k).length = k + 1 := stsS_len
  rw [dawg_walk.b1, if_pos (by rw [decide_eq_true_eq]; omega), stsS_at (Nat.le_refl _) ht, Option.bind_some, hi, Option.bind_some, hf, Option.bind_some]
  have hn : nextS g t c = (xs[xs.findIdx (isLab c)]?).map TEdge.To := by unfold nextS; rw [hx, Option.bind_some]
  rw [hn]
  by_cases h : xs.findIdx (isLab c) < xs.length
  · have hx1 : xs[xs.findIdx (isLab c)]? = some xs[xs.findIdx (isLab c)] := List.getElem?_eq_getElem h
    have hfd : find (isLab c) xs = (xs.findIdx (isLab c) : Int) := by unfold find; rw [if_pos h]
    have hnext : runS g s (w.take (k + 1)) = some (xs[xs.findIdx (isLab c)]).To := by rw [run_take_next hc, ht, Option.bind_some, hn, hx1]; rfl
    rw [hfd, if_neg (by rw [decide_eq_true_eq]; omega), idx_nat, hx1, Option.bind_some, room_ok (by rw [hlen]; omega), Option.bind_some, w64s (by omega), stsS_snoc hnext]
    rfl
  · have hfd : find (isLab c) xs = -1 := by unfold find; rw [if_neg h]
    rw [hfd, if_pos (by decide), List.getElem?_eq_none (by omega)]
    rfl
/-- The walk: the states on the way, or nothing. -/
theorem dawg_walk_eq {g : TGraph} (hs : Short g) (hr : RightP g) {w : Str} (hw : w.length ≤ 1000000) : dawg_walk g w = some (if (runS g ((g.Final.length : Int) - 1) w).isSome then (stsS g ((g.Final.length : Int) - 1) w w.length, true) else ([], false)) := by
  unfold dawg_walk
  rw [start_w hr]
  have hst0 : 0 ≤ (g.Final.length : Int) - 1 := by have := hr.lo; omega
  have hst1 : (g.Final.length : Int) - 1 < g.Final.length := by omega
  have e0 : [(g.Final.length : Int) - 1] = stsS g ((g.Final.length : Int) - 1) w 0 := by simp [stsS, runS]
  rw [e0]
  rcases run_split g ((g.Final.length : Int) - 1) w with hall | ⟨k, t, c, hk, hc, hpre, ht, hn⟩
  · have := Loop_run (b := dawg_walk.b1 g w) (fun k => (stsS g ((g.Final.length : Int) - 1) w k, (k : Int))) (i := 0) (n := w.length) (Nat.zero_le _) (fun k _ hk => by
      obtain ⟨t, ht⟩ := hall k (by omega)
      obtain ⟨u, hu⟩ := hall (k + 1) (by omega)
      have hc : w[k]? = some w[k] := List.getElem?_eq_getElem hk
      have hn : nextS g t w[k] = some u := by rw [run_take_next hc, ht] at hu; exact hu
      show dawg_walk.b1 g w (stsS g _ w k, (k : Int)) = _
      rw [walk_step hs hr hw hst0 hst1 hk hc ht, hn])
    simp only [show ((0 : Nat) : Int) = 0 from rfl] at this
    rw [this]
    obtain ⟨t, ht⟩ := hall w.length (Nat.le_refl _)
    rw [List.take_length] at ht
    apply Loop_end
    simp only [ht, Option.isSome_some, if_true]
    rw [dawg_walk.b1, if_neg (by rw [decide_eq_true_eq]; omega)]
    rfl
  · have := Loop_run (b := dawg_walk.b1 g w) (fun k => (stsS g ((g.Final.length : Int) - 1) w k, (k : Int))) (i := 0) (n := k) (Nat.zero_le _) (fun j _ hj => by
      obtain ⟨t, ht⟩ := hpre j (by omega)
      obtain ⟨u, hu⟩ := hpre (j + 1) (by omega)
      have hc : w[j]? = some (w[j]'(by omega)) := List.getElem?_eq_getElem _
      have hn : nextS g t (w[j]'(by omega)) = some u := by rw [run_take_next hc, ht] at hu; exact hu
      show dawg_walk.b1 g w (stsS g _ w j, (j : Int)) = _
      rw [walk_step hs hr hw hst0 hst1 (by omega) hc ht, hn])
    simp only [show ((0 : Nat) : Int) = 0 from rfl] at this
    rw [this]
    have hnone : runS g ((g.Final.length : Int) - 1) w = none := by
      have h1 : runS g ((g.Final.length : Int) - 1) (w.take (k + 1)) = none := by rw [run_take_next hc, ht]; exact hn
      have := run_take_none h1 w.length (by omega)
      rwa [List.take_length] at this
    rw [Loop_done (r := ([], false)) (by rw [walk_step hs hr hw hst0 hst1 hk hc ht, hn]), hnone]
    rfl
theorem run_last {g : TGraph} (hr : RightP g) {w : Str} {t : Int} (h : runS g ((g.Final.length : Int) - 1) w = some t) : idx (stsS g ((g.Final.length : Int) - 1) w w.length) (w.length : Int) = some t ∧ 0 ≤ t ∧ t < g.Final.length :=
  ⟨stsS_at (Nat.le_refl _) (by rw [List.take_length]; exact h), runS_ok hr (by have := hr.lo; omega) (by omega) h⟩
theorem dawg_Has_eq {g : TGraph} (hs : Short g) (hr : RightP g) {w : Str} (hw : w.length ≤ 1000000) : dawg_Has g w = some (hasS g w) := by
  unfold dawg_Has
  rw [dawg_Right_eq hs, Option.bind_some, if_neg (by simp [hr]), dawg_walk_eq hs hr hw, Option.bind_some]
  cases h : runS g ((g.Final.length : Int) - 1) w with
  | none => simp [hasS, h]
  | some t =>
    obtain ⟨h1, h2, h3⟩ := run_last hr h
    obtain ⟨b, hb1, hb2⟩ := final_at h2 h3
    simp only [Option.isSome_some, if_true]
    rw [h1, Option.bind_some, hb1]
    simp [hasS, h, hb2]
theorem dawg_Has_bad {g : TGraph} (hs : Short g) (hr : ¬ RightP g) {w : Str} : dawg_Has g w = some false := by
  unfold dawg_Has
  rw [dawg_Right_eq hs, Option.bind_some, if_pos (by simp [hr])]
theorem ref_Has_bad {g : TGraph} (hs : Short g) (hr : ¬ RightP g) {w : Str} : scansionref17_Has g w = some false := by
  unfold scansionref17_Has
  rw [ref_Right_eq hs, Option.bind_some, if_pos (by simp [hr])]
end Go.Val

/- part P8 -/
/- Plain lemmas: Number of both. -/
namespace Go.Val
set_option linter.unusedVariables false
def numRow (cs : List Int) (n : Int) (xs : List TEdge) (c : UInt8) : Int := xs.foldl (fun n x => if x.Label.toNat < c.toNat then n + cs.getD x.To.toNat 0 else n) n
theorem numRow_snoc {cs : List Int} {n : Int} {xs : List TEdge} {x : TEdge} {c : UInt8} : numRow cs n (xs ++ [x]) c = if x.Label.toNat < c.toNat then numRow cs n xs c + cs.getD x.To.toNat 0 else numRow cs n xs c := by simp [numRow]
theorem numRow_bound {cs : List Int} (hc : ∀ c ∈ cs, 0 ≤ c ∧ c ≤ cap) {n : Int} (h0 : 0 ≤ n) (c : UInt8) (xs : List TEdge) : n ≤ numRow cs n xs c ∧ numRow cs n xs c ≤ n + xs.length * cap := by
  induction xs using snoc_ind with
  | h0 => simp [numRow]
  | h1 l x ih =>
    rw [numRow_snoc]
    have := getD_bound hc x.To.toNat
    have e : ((l ++ [x]).length : Int) * cap = l.length * cap + cap := by rw [List.length_append]; simp [Int.add_mul]
    have hcap : (0 : Int) ≤ cap := by unfold cap; omega
    split <;> omega
theorem cnt_at {g : TGraph} (hr : RightP g) {t : Int} (h0 : 0 ≤ t) (h1 : t < g.Final.length) : idx (counts (rowsOf g)) t = some ((counts (rowsOf g)).getD t.toNat 0) := by
  have hl : (counts (rowsOf g)).length = g.Final.length := by rw [counts_len, rows_len hr.len]
  have hx : (counts (rowsOf g))[t.toNat]? = some ((counts (rowsOf g))[t.toNat]'(by omega)) := List.getElem?_eq_getElem _
  rw [idx_some h0 hx]
  rw [List.getD_eq_getElem?_getD, hx]; rfl
theorem row_ok {g : TGraph} (hr : RightP g) {s : Int} (h0 : 0 ≤ s) (h1 : s < g.Final.length) {xs : List TEdge} (hx : g.Edges[s.toNat]? = some xs) {x : TEdge} {k : Nat} (hk : xs[k]? = some x) : 0 ≤ x.To ∧ x.To < s ∧ (0 < k → ∀ x1, xs[k - 1]? = some x1 → x1.Label.toNat < x.Label.toNat) := by
  have := hr.rows s.toNat (List.getElem?_eq_some_iff.1 hx).1 xs hx _ (List.getElem?_eq_some_iff.1 hk).1 x hk
  exact ⟨this.1, by omega, this.2.2⟩
/-- One row of the farm's Number. -/
theorem dawg_num_row {g : TGraph} (hr : RightP g) {s : Int} (h0 : 0 ≤ s) (h1 : s < g.Final.length) {xs : List TEdge} (hx : g.Edges[s.toNat]? = some xs) (hl : xs.length ≤ 300) {w : Str} {v : Nat} {c : UInt8} (hc : w[v]? = some c) (hv : v < 1000) (e : Int) {n : Int} (hn0 : 0 ≤ n) (hn1 : n ≤ 1000000000000000000) :
    Loop (dawg_Number.b2 w (counts (rowsOf g), e) (v : Int) xs) (n, 0) = some (.next (numRow (counts (rowsOf g)) n xs c, ((v + 1 : Nat) : Int))) := by
  have hcb := counts_bound (rowsOf g)
  have := Loop_run (b := dawg_Number.b2 w (counts (rowsOf g), e) (v : Int) xs) (fun k => (numRow (counts (rowsOf g)) n (xs.take k) c, (k : Int))) (i := 0) (n := xs.length) (Nat.zero_le _) (fun j _ hj => by
    have hj1 : xs[j]? = some xs[j] := List.getElem?_eq_getElem hj
    have hk := row_ok hr h0 h1 hx hj1
    have hb := numRow_bound hcb hn0 c (xs.take j)
    have hg := getD_bound hcb xs[j].To.toNat
    have hlen : (xs.take j).length = j := by rw [List.length_take]; omega
    rw [hlen] at hb
    have hm : (j : Int) * cap ≤ 300 * cap := Int.mul_le_mul_of_nonneg_right (by omega) (by unfold cap; omega)
    unfold cap at hb hg hm
    show dawg_Number.b2 w _ (v : Int) xs (_, (j : Int)) = _
    rw [dawg_Number.b2, if_pos (by rw [decide_eq_true_eq]; omega), idx_nat, hj1, Option.bind_some, idx_nat, hc, Option.bind_some, take_snoc hj1, numRow_snoc]
    by_cases h : xs[j].Label.toNat < c.toNat
    · rw [if_pos (by rw [decide_eq_true_eq]; omega), cnt_at hr hk.1 (by omega), Option.bind_some, if_pos h, w64 (by omega) (by omega)]
      unfold dawg_Number.k4
      rw [w64s (by omega)]
    · rw [if_neg (by rw [decide_eq_true_eq]; omega), if_neg h]
      unfold dawg_Number.k4
      rw [w64s (by omega)])
  simp only [List.take_zero, List.take_length, show ((0 : Nat) : Int) = 0 from rfl] at this
  rw [show numRow (counts (rowsOf g)) n [] c = n from rfl] at this
  rw [this]
  apply Loop_done
  rw [dawg_Number.b2, if_neg (by rw [decide_eq_true_eq]; omega)]
  unfold dawg_Number.k2
  rw [w64s (by omega)]
  rfl
/-- Past the first label that is not below, nothing counts. -/
theorem numRow_cut {cs : List Int} {n : Int} {xs : List TEdge} {c : UInt8} {m : Nat} (hsort : ∀ k x, xs[k]? = some x → 0 < k → ∀ x1, xs[k - 1]? = some x1 → x1.Label.toNat < x.Label.toNat) (hm : ∀ x, xs[m]? = some x → c.toNat ≤ x.Label.toNat) : numRow cs n xs c = numRow cs n (xs.take m) c := by
  have key : ∀ j, m ≤ j → (∀ x, xs[j]? = some x → c.toNat ≤ x.Label.toNat) ∧ numRow cs n (xs.take j) c = numRow cs n (xs.take m) c := by
    intro j hj
    induction j with
    | zero => obtain rfl : m = 0 := by omega
              exact ⟨hm, rfl⟩
    | succ j ih =>
      by_cases e : m = j + 1
      · subst e; exact ⟨hm, rfl⟩
      · obtain ⟨i1, i2⟩ := ih (by omega)
        refine ⟨fun x hx => ?_, ?_⟩
        · have hlt := (List.getElem?_eq_some_iff.1 hx).1
          have hj1 : xs[j]? = some (xs[j]'(by omega)) := List.getElem?_eq_getElem _
          have := hsort (j + 1) x hx (by omega) _ (by rw [Nat.add_sub_cancel]; exact hj1)
          have := i1 _ hj1
          omega
        · cases hx : xs[j]? with
          | none => rw [List.take_of_length_le (by have := List.getElem?_eq_none_iff.1 hx; omega), ← i2, List.take_of_length_le (List.getElem?_eq_none_iff.1 hx)]
          | some x => rw [take_snoc hx, numRow_snoc, if_neg (by have := i1 x hx; omega), i2]
  by_cases h : m ≤ xs.length
  · have := (key xs.length h).2
    rwa [List.take_length] at this
  · rw [List.take_of_length_le (by omega)]
/-- One row of the reference's Number: the sum below the label. -/
theorem ref_num_row {g : TGraph} (hr : RightP g) {s : Int} (h0 : 0 ≤ s) (h1 : s < g.Final.length) {xs : List TEdge} (hx : g.Edges[s.toNat]? = some xs) (hl : xs.length ≤ 300) {w : Str} {v : Nat} {c : UInt8} (hc : w[v]? = some c) (hv : v < 1000) (e : Int) {n : Int} (hn0 : 0 ≤ n) (hn1 : n ≤ 1000000000000000000) :
    Loop (scansionref17_Number.b2 g w (counts (rowsOf g), e) s (v : Int)) (n, 0) = scansionref17_Number.k4 g w s (v : Int) (numRow (counts (rowsOf g)) n xs c) := by
  have hcb := counts_bound (rowsOf g)
  have hi : idx g.Edges s = some xs := idx_some h0 hx
  have hle : xs.findIdx (fun x => decide (c.toNat ≤ x.Label.toNat)) ≤ xs.length := List.findIdx_le_length
  generalize hM : xs.findIdx (fun x => decide (c.toNat ≤ x.Label.toNat)) = m at hle
  have := Loop_run (b := scansionref17_Number.b2 g w (counts (rowsOf g), e) s (v : Int)) (fun k => (numRow (counts (rowsOf g)) n (xs.take k) c, (k : Int))) (i := 0) (n := m) (Nat.zero_le _) (fun j _ hj => by
    have hj0 : j < xs.length := by omega
    have hj1 : xs[j]? = some xs[j] := List.getElem?_eq_getElem hj0
    have hg0 : decide (c.toNat ≤ xs[j].Label.toNat) = false := by
      have := List.not_of_lt_findIdx (p := fun x : TEdge => decide (c.toNat ≤ x.Label.toNat)) (xs := xs) (i := j) (by omega)
      simpa using this
    have hlt : xs[j].Label.toNat < c.toNat := by simpa using hg0
    have hk := row_ok hr h0 h1 hx hj1
    have hb := numRow_bound hcb hn0 c (xs.take j)
    have hg := getD_bound hcb xs[j].To.toNat
    have hlen : (xs.take j).length = j := by rw [List.length_take]; omega
    rw [hlen] at hb
    have hm : (j : Int) * cap ≤ 300 * cap := Int.mul_le_mul_of_nonneg_right (by omega) (by unfold cap; omega)
    unfold cap at hb hg hm
    show scansionref17_Number.b2 g w _ s (v : Int) (_, (j : Int)) = _
    rw [scansionref17_Number.b2, hi, Option.bind_some, if_pos (by rw [decide_eq_true_eq]; omega), idx_nat, hj1, Option.bind_some, idx_nat, hc, Option.bind_some, Option.bind_some, if_pos (by rw [decide_eq_true_eq]; omega), Option.bind_some, idx_nat, hj1, Option.bind_some, cnt_at hr hk.1 (by omega), Option.bind_some, w64 (by omega) (by omega), w64s (by omega), take_snoc hj1, numRow_snoc, if_pos hlt])
  simp only [List.take_zero, show ((0 : Nat) : Int) = 0 from rfl] at this
  rw [show numRow (counts (rowsOf g)) n [] c = n from rfl] at this
  rw [this]
  have hcut : numRow (counts (rowsOf g)) n xs c = numRow (counts (rowsOf g)) n (xs.take m) c := numRow_cut (fun k x hk h x1 hx1 => (row_ok hr h0 h1 hx hk).2.2 h x1 hx1) (fun x hxm => by
    have hlt := (List.getElem?_eq_some_iff.1 hxm).1
    have h2 := List.findIdx_getElem (p := fun x : TEdge => decide (c.toNat ≤ x.Label.toNat)) (xs := xs) (w := by omega)
    subst hM
    rw [List.getElem?_eq_getElem hlt] at hxm
    injection hxm with hxm
    subst hxm
    simpa using h2)
  rw [hcut]
  apply Loop_end
  rw [scansionref17_Number.b2, hi, Option.bind_some]
  by_cases h : m < xs.length
  · have hj1 : xs[m]? = some xs[m] := List.getElem?_eq_getElem h
    have h2 := List.findIdx_getElem (p := fun x : TEdge => decide (c.toNat ≤ x.Label.toNat)) (xs := xs) (w := by omega)
    have h3 : c.toNat ≤ xs[m].Label.toNat := by subst hM; simpa using h2
    rw [if_pos (by rw [decide_eq_true_eq]; omega), idx_nat, hj1, Option.bind_some, idx_nat, hc, Option.bind_some, Option.bind_some, if_neg (by rw [decide_eq_true_eq]; omega)]
  · rw [if_neg (by rw [decide_eq_true_eq]; omega), Option.bind_some, if_neg (by decide)]
def stOf (g : TGraph) (w : Str) (k : Nat) : Int := (runS g ((g.Final.length : Int) - 1) (w.take k)).getD 0
def numA (g : TGraph) (w : Str) : Nat → Int
  | 0 => 0
  | k + 1 => numRow (counts (rowsOf g)) (numA g w k + if (g.Final[(stOf g w k).toNat]?).getD false then 1 else 0) ((g.Edges[(stOf g w k).toNat]?).getD []) (w.getD k 0)
theorem numA_succ {g : TGraph} {w : Str} {k : Nat} : numA g w (k + 1) = numRow (counts (rowsOf g)) (numA g w k + if (g.Final[(stOf g w k).toNat]?).getD false then 1 else 0) ((g.Edges[(stOf g w k).toNat]?).getD []) (w.getD k 0) := rfl
def Rows300 (g : TGraph) : Prop := ∀ xs ∈ g.Edges, xs.length ≤ 300
theorem numA_bound {g : TGraph} (h3 : Rows300 g) {w : Str} : ∀ k, 0 ≤ numA g w k ∧ numA g w k ≤ k * (1 + 300 * cap)
  | 0 => by simp [numA]
  | k + 1 => by
    have ih := numA_bound h3 (w := w) k
    unfold numA
    generalize hf : (if (g.Final[(stOf g w k).toNat]?).getD false then (1 : Int) else 0) = f
    have hf2 : 0 ≤ f ∧ f ≤ 1 := by rw [← hf]; split <;> omega
    have hl : ((g.Edges[(stOf g w k).toNat]?).getD []).length ≤ 300 := by
      cases h : g.Edges[(stOf g w k).toNat]? with
      | none => simp
      | some xs => exact h3 xs (List.mem_of_getElem? h)
    generalize (g.Edges[(stOf g w k).toNat]?).getD [] = xs at hl ⊢
    have hb := numRow_bound (counts_bound (rowsOf g)) (n := numA g w k + f) (by omega) (w.getD k 0) xs
    have hm : (xs.length : Int) * cap ≤ 300 * cap := Int.mul_le_mul_of_nonneg_right (by omega) (by unfold cap; omega)
    have e : ((k + 1 : Nat) : Int) * (1 + 300 * cap) = k * (1 + 300 * cap) + (1 + 300 * cap) := by rw [Int.natCast_succ, Int.add_mul, Int.one_mul]
    rw [e]
    omega
theorem numA_ok {g : TGraph} (h3 : Rows300 g) {w : Str} {k : Nat} (hk : k ≤ 1000) : 0 ≤ numA g w k ∧ numA g w k ≤ 900000000000000000 := by
  have := numA_bound h3 (w := w) k
  have hm : (k : Int) * (1 + 300 * cap) ≤ 1000 * (1 + 300 * cap) := Int.mul_le_mul_of_nonneg_right (by omega) (by unfold cap; omega)
  unfold cap at hm this
  omega
/-- What Number answers at a word that the graph has. -/
def numS (g : TGraph) (w : Str) : Int := mn (numA g w w.length) 1099511627776
theorem all_of {g : TGraph} {s t : Int} {w : Str} (h : runS g s w = some t) : ∀ k, k ≤ w.length → ∃ u, runS g s (w.take k) = some u := by
  intro k hk
  cases e : runS g s (w.take k) with
  | some u => exact ⟨u, rfl⟩
  | none =>
    have := run_take_none e w.length hk
    rw [List.take_length, h] at this
    cases this
theorem dawg_num_loop {g : TGraph} (h3 : Rows300 g) (hr : RightP g) {w : Str} (hw : w.length ≤ 100) {t : Int} (h : runS g ((g.Final.length : Int) - 1) w = some t) (e : Int) (b : Bool) : Loop (dawg_Number.b1 g w (counts (rowsOf g), e) (stsS g ((g.Final.length : Int) - 1) w w.length, b)) (0, 0) = some (numS g w, 0) := by
  have hall := all_of h
  have hst0 : 0 ≤ (g.Final.length : Int) - 1 := by have := hr.lo; omega
  have hst1 : (g.Final.length : Int) - 1 < g.Final.length := by omega
  have := Loop_run (b := dawg_Number.b1 g w (counts (rowsOf g), e) (stsS g ((g.Final.length : Int) - 1) w w.length, b)) (fun k => (numA g w k, (k : Int))) (i := 0) (n := w.length) (Nat.zero_le _) (fun k _ hk => by
    obtain ⟨u, hu⟩ := hall k (by omega)
    have hb := runS_ok hr hst0 hst1 hu
    obtain ⟨xs, hi, hx, hm⟩ := row_at hr hb.1 hb.2
    obtain ⟨f, hf1, hf2⟩ := final_at hb.1 hb.2
    have hc : w[k]? = some w[k] := List.getElem?_eq_getElem hk
    have hn := numA_ok h3 (w := w) (k := k) (by omega)
    have hst : stOf g w k = u := by unfold stOf; rw [hu]; rfl
    have hrow := fun (n : Int) h0 h1 => dawg_num_row hr hb.1 hb.2 hx (h3 xs hm) hc (by omega) e (n := n) h0 h1
    show dawg_Number.b1 g w _ _ (numA g w k, (k : Int)) = _
    rw [dawg_Number.b1, if_pos (by rw [decide_eq_true_eq]; omega), stsS_at (by omega) hu, Option.bind_some, hf1, Option.bind_some]
    unfold dawg_Number.k3
    rw [hi, Option.bind_some, Option.bind_some]
    show _ = some (Step.next (numA g w (k + 1), _))
    rw [numA_succ, hst, hf2, hx, List.getD_eq_getElem?_getD, hc]
    cases f with
    | true => rw [if_pos rfl, w64 (by omega) (by omega), hrow _ (by omega) (by omega)]; rfl
    | false => rw [if_neg (by decide), hrow _ (by omega) (by omega)]; simp)
  simp only [show ((0 : Nat) : Int) = 0 from rfl] at this
  rw [show numA g w 0 = 0 from rfl] at this
  rw [this]
  apply Loop_end
  rw [dawg_Number.b1, if_neg (by rw [decide_eq_true_eq]; omega)]
  rfl
theorem ref_num_loop {g : TGraph} (hs : Short g) (h3 : Rows300 g) (hr : RightP g) {w : Str} (hw : w.length ≤ 100) {t : Int} (h : runS g ((g.Final.length : Int) - 1) w = some t) (e : Int) : Loop (scansionref17_Number.b1 g w (counts (rowsOf g), e)) (0, (g.Final.length : Int) - 1, 0) = some (numS g w, 0) := by
  have hall := all_of h
  have hst0 : 0 ≤ (g.Final.length : Int) - 1 := by have := hr.lo; omega
  have hst1 : (g.Final.length : Int) - 1 < g.Final.length := by omega
  have := Loop_run (b := scansionref17_Number.b1 g w (counts (rowsOf g), e)) (fun k => (numA g w k, stOf g w k, (k : Int))) (i := 0) (n := w.length) (Nat.zero_le _) (fun k _ hk => by
    obtain ⟨u, hu⟩ := hall k (by omega)
    obtain ⟨v, hv⟩ := hall (k + 1) (by omega)
    have hb := runS_ok hr hst0 hst1 hu
    obtain ⟨xs, hi, hx, hm⟩ := row_at hr hb.1 hb.2
    obtain ⟨f, hf1, hf2⟩ := final_at hb.1 hb.2
    have hc : w[k]? = some w[k] := List.getElem?_eq_getElem hk
    have hn := numA_ok h3 (w := w) (k := k) (by omega)
    have hst : stOf g w k = u := by unfold stOf; rw [hu]; rfl
    have hst2 : stOf g w (k + 1) = v := by unfold stOf; rw [hv]; rfl
    have hnx : nextS g u w[k] = some v := by rw [run_take_next hc, hu] at hv; exact hv
    have hrow := fun (n : Int) h0 h1 => ref_num_row hr hb.1 hb.2 hx (h3 xs hm) hc (by omega) e (n := n) h0 h1
    show scansionref17_Number.b1 g w _ (numA g w k, stOf g w k, (k : Int)) = _
    rw [scansionref17_Number.b1, hst, if_pos (by rw [decide_eq_true_eq]; omega), hf1, Option.bind_some]
    unfold scansionref17_Number.k3
    show _ = some (Step.next (numA g w (k + 1), stOf g w (k + 1), _))
    have hk4 : ∀ n, scansionref17_Number.k4 g w u (k : Int) n = some (.next (n, v, ((k + 1 : Nat) : Int))) := fun n => by
      unfold scansionref17_Number.k4 scansionref17_Number.k2
      rw [idx_nat, hc, Option.bind_some, ref_to_eq hs hr hb.1 hb.2, Option.bind_some, hnx, w64s (by omega)]
      rfl
    rw [hst2, numA_succ, hst, hf2, hx, List.getD_eq_getElem?_getD, hc]
    cases f with
    | true => rw [if_pos rfl, w64 (by omega) (by omega), hrow _ (by omega) (by omega), hk4]; rfl
    | false => rw [if_neg (by decide), hrow _ (by omega) (by omega), hk4]; simp)
  simp only [show ((0 : Nat) : Int) = 0 from rfl] at this
  rw [show numA g w 0 = 0 from rfl, show stOf g w 0 = (g.Final.length : Int) - 1 from rfl] at this
  rw [this]
  apply Loop_end
  rw [scansionref17_Number.b1, if_neg (by rw [decide_eq_true_eq]; omega)]
  rfl
theorem dawg_Number_eq {g : TGraph} (hs : Short g) (h3 : Rows300 g) (hr : RightP g) {w : Str} (hw : w.length ≤ 100) : dawg_Number g w = some (if hasS g w then (numS g w, 0) else (0, 4)) := by
  unfold dawg_Number
  rw [dawg_Count_eq hs hr, Option.bind_some, if_neg (by simp), dawg_walk_eq hs hr (by omega), Option.bind_some]
  cases h : runS g ((g.Final.length : Int) - 1) w with
  | none => simp [hasS, h]
  | some t =>
    obtain ⟨h1, h2, h4⟩ := run_last hr h
    obtain ⟨b, hb1, hb2⟩ := final_at h2 h4
    simp only [Option.isSome_some, if_true]
    rw [if_neg (by decide), h1, Option.bind_some, hb1, Option.bind_some, Option.bind_some, dawg_num_loop h3 hr hw h]
    cases b <;> simp [hasS, h, hb2]
theorem ref_Number_eq {g : TGraph} (hs : Short g) (h3 : Rows300 g) (hr : RightP g) {w : Str} (hw : w.length ≤ 100) : scansionref17_Number g w = some (if hasS g w then (numS g w, 0) else (0, 4)) := by
  unfold scansionref17_Number
  rw [ref_Count_eq hs hr, Option.bind_some, if_neg (by simp), ref_Has_eq hs hr (by omega), Option.bind_some, start_w hr]
  cases hh : hasS g w with
  | false => rfl
  | true =>
    rw [if_neg (by decide)]
    cases h : runS g ((g.Final.length : Int) - 1) w with
    | none => simp [hasS, h] at hh
    | some t => rw [ref_num_loop hs h3 hr hw h]; rfl
end Go.Val

/- part P9 -/
/- Plain lemmas: Word of both. -/
namespace Go.Val
set_option linter.unusedVariables false
theorem cnt_sum {g : TGraph} (hr : RightP g) {s : Nat} {f : Bool} {xs : List TEdge} (h1 : g.Final[s]? = some f) (h2 : g.Edges[s]? = some xs) : (counts (rowsOf g)).getD s 0 = mn (sumTo (counts (rowsOf g)) (if f then 1 else 0) xs) cap := by
  have hl := rows_len hr.len
  have hlt := (List.getElem?_eq_some_iff.1 h2).1
  have hlf := hr.len
  have hrow := hr.rows s hlt xs h2
  have hpre := counts_bound ((rowsOf g).take s)
  have e0 : counts ((rowsOf g).take (s + 1)) = (counts (rowsOf g)).take (s + 1) := counts_take _ _
  have e := congrArg (fun l => l[s]?) (counts_next h1 h2)
  simp only [e0, List.getElem?_take] at e
  rw [if_pos (by omega)] at e
  have hll : (counts ((rowsOf g).take s)).length = s := by rw [counts_len, List.length_take]; omega
  rw [List.getElem?_append_right (by omega), hll, Nat.sub_self] at e
  rw [List.getD_eq_getElem?_getD, e]
  show crow _ _ xs = _
  rw [crow_sum hpre (by split <;> omega) (by split <;> omega)]
  congr 1
  exact sumTo_congr fun x hx => by
    obtain ⟨k, hk⟩ := List.getElem?_of_mem hx
    have hok := hrow k (List.getElem?_eq_some_iff.1 hk).1 _ hk
    rw [counts_take, List.getD_eq_getElem?_getD, List.getD_eq_getElem?_getD, List.getElem?_take, if_pos (by omega)]
/-- The edge that holds word number n of a row, and the number left. -/
def pick (cs : List Int) : Int → List TEdge → Option (Int × TEdge)
  | n, [] => none
  | n, x :: xs => if n < cs.getD x.To.toNat 0 then some (n, x) else pick cs (n - cs.getD x.To.toNat 0) xs
theorem pick_none {cs : List Int} : ∀ {xs : List TEdge} {n a : Int}, pick cs n xs = none → 0 ≤ n → sumTo cs a xs ≤ a + n
  | [], n, a, h, h0 => by simp [sumTo]; omega
  | x :: xs, n, a, h, h0 => by
    unfold pick at h
    split at h
    · cases h
    · have := pick_none (a := a + cs.getD x.To.toNat 0) h (by omega)
      have e : sumTo cs a (x :: xs) = sumTo cs (a + cs.getD x.To.toNat 0) xs := rfl
      rw [e]; omega
theorem pick_some {cs : List Int} (hc : ∀ c ∈ cs, 0 ≤ c ∧ c ≤ cap) : ∀ {xs : List TEdge} {n m : Int} {x : TEdge}, pick cs n xs = some (m, x) → 0 ≤ n → 0 ≤ m ∧ m ≤ n ∧ m < cs.getD x.To.toNat 0 ∧ x ∈ xs
  | [], n, m, x, h, h0 => by simp [pick] at h
  | y :: xs, n, m, x, h, h0 => by
    unfold pick at h
    split at h
    · injection h with h; injection h with h1 h2; subst h1 h2; exact ⟨h0, by omega, by assumption, by simp⟩
    · have := pick_some hc h (by omega)
      have := getD_bound hc y.To.toNat
      refine ⟨by omega, by omega, by omega, by simp [*]⟩
theorem drop_at {α : Type} {xs ys : List α} {x : α} {k : Nat} (h : xs.drop k = x :: ys) : xs[k]? = some x ∧ xs.drop (k + 1) = ys ∧ k < xs.length := by
  have h1 : (xs.drop k)[0]? = some x := by rw [h]; rfl
  rw [List.getElem?_drop, Nat.add_zero] at h1
  refine ⟨h1, ?_, (List.getElem?_eq_some_iff.1 h1).1⟩
  rw [← List.tail_drop, h]; rfl
theorem dawg_word_row {g : TGraph} (hr : RightP g) {s : Int} (h0 : 0 ≤ s) (h1 : s < g.Final.length) {xs : List TEdge} (hx : g.Edges[s.toNat]? = some xs) (hl : xs.length ≤ 300) {word : List UInt8} (hw : word.length ≤ 1000000) {m : Int} {x : TEdge} (e : Int) : ∀ (ys : List TEdge) (k : Nat) (n : Int), xs.drop k = ys → 0 ≤ n → n ≤ cap → pick (counts (rowsOf g)) n ys = some (m, x) →
    Loop (dawg_Word.b2 (counts (rowsOf g), e) s word xs) (n, (k : Int)) = some (.next (m, x.To, word ++ [x.Label]))
  | [], k, n, hd, n0, n1, hp => by simp [pick] at hp
  | y :: ys, k, n, hd, n0, n1, hp => by
    obtain ⟨hk, hd2, hlt⟩ := drop_at hd
    have hok := row_ok hr h0 h1 hx hk
    have hcb := counts_bound (rowsOf g)
    have hg := getD_bound hcb y.To.toNat
    unfold pick at hp
    by_cases h : n < (counts (rowsOf g)).getD y.To.toNat 0
    · rw [if_pos h] at hp
      injection hp with hp; injection hp with hp1 hp2; subst hp1 hp2
      apply Loop_end
      rw [dawg_Word.b2, if_pos (by rw [decide_eq_true_eq]; omega), idx_nat, hk, Option.bind_some, cnt_at hr hok.1 (by omega), Option.bind_some, if_pos (by rw [decide_eq_true_eq]; omega), room_ok (by omega), Option.bind_some]
      rfl
    · rw [if_neg h] at hp
      unfold cap at hg n1
      rw [← dawg_word_row hr h0 h1 hx hl hw e ys (k + 1) (n - (counts (rowsOf g)).getD y.To.toNat 0) hd2 (by omega) (by unfold cap; omega) hp]
      apply Loop_next
      rw [dawg_Word.b2, if_pos (by rw [decide_eq_true_eq]; omega), idx_nat, hk, Option.bind_some, cnt_at hr hok.1 (by omega), Option.bind_some, if_neg (by rw [decide_eq_true_eq]; omega), w64 (by omega) (by omega), w64s (by omega)]
theorem ref_word_row {g : TGraph} (hr : RightP g) {s : Int} (h0 : 0 ≤ s) (h1 : s < g.Final.length) {xs : List TEdge} (hx : g.Edges[s.toNat]? = some xs) (hl : xs.length ≤ 300) {word : Str} (hw : word.length ≤ 1000000) {m : Int} {x : TEdge} (e : Int) : ∀ (ys : List TEdge) (k : Nat) (n : Int), xs.drop k = ys → 0 ≤ n → n ≤ cap → pick (counts (rowsOf g)) n ys = some (m, x) →
    Loop (scansionref17_Word.b2 g (counts (rowsOf g), e) s word) (n, (k : Int)) = some (.next (m, x.To, word ++ [x.Label]))
  | [], k, n, hd, n0, n1, hp => by simp [pick] at hp
  | y :: ys, k, n, hd, n0, n1, hp => by
    obtain ⟨hk, hd2, hlt⟩ := drop_at hd
    have hok := row_ok hr h0 h1 hx hk
    have hcb := counts_bound (rowsOf g)
    have hg := getD_bound hcb y.To.toNat
    have hi : idx g.Edges s = some xs := idx_some h0 hx
    unfold pick at hp
    by_cases h : n < (counts (rowsOf g)).getD y.To.toNat 0
    · rw [if_pos h] at hp
      injection hp with hp; injection hp with hp1 hp2; subst hp1 hp2
      apply Loop_end
      rw [scansionref17_Word.b2, hi, Option.bind_some, idx_nat, hk, Option.bind_some, cnt_at hr hok.1 (by omega), Option.bind_some, if_neg (by rw [decide_eq_true_eq]; omega)]
      unfold scansionref17_Word.k3 scansionref17_Word.k1
      rw [hi, Option.bind_some, idx_nat, hk, Option.bind_some, roomS_ok (by omega), Option.bind_some]
    · rw [if_neg h] at hp
      unfold cap at hg n1
      rw [← ref_word_row hr h0 h1 hx hl hw e ys (k + 1) (n - (counts (rowsOf g)).getD y.To.toNat 0) hd2 (by omega) (by unfold cap; omega) hp]
      apply Loop_next
      rw [scansionref17_Word.b2, hi, Option.bind_some, idx_nat, hk, Option.bind_some, cnt_at hr hok.1 (by omega), Option.bind_some, if_pos (by rw [decide_eq_true_eq]; omega), w64 (by omega) (by omega), w64s (by omega)]
/-- From a state that holds more than n words, both spell the same word. -/
theorem word_run {g : TGraph} (hr : RightP g) (h3 : Rows300 g) (e : Int) : ∀ (N : Nat) (s n : Int) (word : Str), s.toNat ≤ N → 0 ≤ s → s < g.Final.length → 0 ≤ n → n < (counts (rowsOf g)).getD s.toNat 0 → word.length + N ≤ 100000 →
    ∃ r : Str, Loop (dawg_Word.b1 g (counts (rowsOf g), e)) (n, s, word) = some (r, 0) ∧ Loop (scansionref17_Word.b1 g (counts (rowsOf g), e)) (n, s, word) = some (r, 0) := by
  intro N
  induction N with
  | zero =>
    intro s n word hN h0 h1 n0 n1 hw
    obtain ⟨xs, hi, hx, hm⟩ := row_at hr h0 h1
    obtain ⟨f, hf1, hf2⟩ := final_at h0 h1
    have hs := cnt_sum hr hf2 hx
    rw [hs] at n1
    cases xs with
    | cons x l => have := row_ok hr h0 h1 hx (x := x) (k := 0) rfl; omega
    | nil =>
      cases f with
      | false => simp [sumTo, mn, cap] at n1; omega
      | true =>
        have : n = 0 := by simp [sumTo, mn, cap] at n1; omega
        subst this
        refine ⟨word, Loop_done ?_, Loop_done ?_⟩
        · rw [dawg_Word.b1, hf1]; rfl
        · rw [scansionref17_Word.b1, hf1]; rfl
  | succ N ih =>
    intro s n word hN h0 h1 n0 n1 hw
    obtain ⟨xs, hi, hx, hm⟩ := row_at hr h0 h1
    obtain ⟨f, hf1, hf2⟩ := final_at h0 h1
    have hs := cnt_sum hr hf2 hx
    have hcb := counts_bound (rowsOf g)
    have hg := getD_bound hcb s.toNat
    rw [hs] at n1
    have hn2 : n < sumTo (counts (rowsOf g)) (if f then 1 else 0) xs := Int.lt_of_lt_of_le n1 mn_le.2
    have hcap : n < cap := Int.lt_of_lt_of_le n1 mn_le.1
    have go : ∀ n' : Int, 0 ≤ n' → n' ≤ n → (if f then 1 else 0) + n' ≤ n → ∃ r : Str, ((dawg_Word.k2 g (counts (rowsOf g), e) s word n').bind fun st => match st with | .next st => Loop (dawg_Word.b1 g (counts (rowsOf g), e)) st | .done r => some r) = some (r, 0) ∧ ((scansionref17_Word.k2 g (counts (rowsOf g), e) s word n').bind fun st => match st with | .next st => Loop (scansionref17_Word.b1 g (counts (rowsOf g), e)) st | .done r => some r) = some (r, 0) ∧ ∃ st, dawg_Word.k2 g (counts (rowsOf g), e) s word n' = some (.next st) ∧ scansionref17_Word.k2 g (counts (rowsOf g), e) s word n' = some (.next st) := fun n' p0 p1 p2 => by
      cases hp : pick (counts (rowsOf g)) n' xs with
      | none => have := pick_none (a := if f then 1 else 0) hp p0; omega
      | some mx =>
        obtain ⟨m, x⟩ := mx
        obtain ⟨q0, q1, q2, q3⟩ := pick_some hcb hp p0
        obtain ⟨k, hk⟩ := List.getElem?_of_mem q3
        have hok := row_ok hr h0 h1 hx hk
        have hd := dawg_word_row hr h0 h1 hx (h3 xs hm) (word := word) (by omega) e xs 0 n' rfl p0 (by omega) hp
        have hf := ref_word_row hr h0 h1 hx (h3 xs hm) (word := word) (by omega) e xs 0 n' rfl p0 (by omega) hp
        obtain ⟨r, r1, r2⟩ := ih x.To m (word ++ [x.Label]) (by omega) hok.1 (by omega) q0 q2 (by simp; omega)
        have e1 : dawg_Word.k2 g (counts (rowsOf g), e) s word n' = some (.next (m, x.To, word ++ [x.Label])) := by
          unfold dawg_Word.k2; rw [hi, Option.bind_some]; exact hd
        have e2 : scansionref17_Word.k2 g (counts (rowsOf g), e) s word n' = some (.next (m, x.To, word ++ [x.Label])) := by
          unfold scansionref17_Word.k2; exact hf
        refine ⟨r, ?_, ?_, _, e1, e2⟩
        · rw [e1]; exact r1
        · rw [e2]; exact r2
    have fin : ∀ n' : Int, 0 ≤ n' → n' ≤ n → (if f then 1 else 0) + n' ≤ n → dawg_Word.b1 g (counts (rowsOf g), e) (n, s, word) = dawg_Word.k2 g (counts (rowsOf g), e) s word n' → scansionref17_Word.b1 g (counts (rowsOf g), e) (n, s, word) = scansionref17_Word.k2 g (counts (rowsOf g), e) s word n' → ∃ r : Str, Loop (dawg_Word.b1 g (counts (rowsOf g), e)) (n, s, word) = some (r, 0) ∧ Loop (scansionref17_Word.b1 g (counts (rowsOf g), e)) (n, s, word) = some (r, 0) := fun n' p0 p1 p2 e1 e2 => by
      obtain ⟨r, r1, r2, st, s1, s2⟩ := go n' p0 p1 p2
      rw [s1] at r1 e1
      rw [s2] at r2 e2
      exact ⟨r, by rw [Loop_next e1]; exact r1, by rw [Loop_next e2]; exact r2⟩
    cases f with
    | false =>
      refine fin n n0 (Int.le_refl _) (by simp) ?_ ?_
      · rw [dawg_Word.b1, hf1]; rfl
      · rw [scansionref17_Word.b1, hf1]; rfl
    | true =>
      by_cases hz : n = 0
      · subst hz
        refine ⟨word, Loop_done ?_, Loop_done ?_⟩
        · rw [dawg_Word.b1, hf1]; rfl
        · rw [scansionref17_Word.b1, hf1]; rfl
      · unfold cap at hcap
        refine fin (n - 1) (by omega) (by omega) (by simp; omega) ?_ ?_
        · rw [dawg_Word.b1, hf1, Option.bind_some, if_pos rfl, if_neg (by simpa using hz), w64 (by omega) (by omega)]
        · rw [scansionref17_Word.b1, hf1, Option.bind_some, if_pos rfl, if_neg (by simpa using hz), w64 (by omega) (by omega)]
/-- Word of both. -/
theorem Word_eq {g : TGraph} (hs : Short g) (h3 : Rows300 g) (hr : RightP g) (n : Int) : ∃ r, dawg_Word g n = some r ∧ scansionref17_Word g n = some r := by
  have hlen : (counts (rowsOf g)).length = g.Final.length := by rw [counts_len, rows_len hr.len]
  have hst0 : 0 ≤ (g.Final.length : Int) - 1 := by have := hr.lo; omega
  have hst1 : (g.Final.length : Int) - 1 < g.Final.length := by omega
  have D := dawg_Count_eq hs hr
  have R := ref_Count_eq hs hr
  by_cases hn : n < 0
  · refine ⟨([], 4), ?_, ?_⟩
    · unfold dawg_Word; rw [D, Option.bind_some, if_neg (by simp), if_pos (by rw [decide_eq_true_eq]; exact hn)]; rfl
    · unfold scansionref17_Word; rw [R, Option.bind_some, if_neg (by simp), if_pos (by rw [decide_eq_true_eq]; exact hn)]; rfl
  · have hn' : ¬ (decide (n < 0) = true) := by rw [decide_eq_true_eq]; exact hn
    by_cases hb : n ≥ (counts (rowsOf g)).getD ((g.Final.length : Int) - 1).toNat 0
    · have hb' : decide (n ≥ (counts (rowsOf g)).getD ((g.Final.length : Int) - 1).toNat 0) = true := by rw [decide_eq_true_eq]; exact hb
      refine ⟨([], 4), ?_, ?_⟩
      · unfold dawg_Word; rw [D, Option.bind_some, if_neg (by simp), if_neg hn']; simp only [hlen]; rw [start_w hr, cnt_at hr hst0 hst1, Option.bind_some, Option.bind_some, if_pos hb']
      · unfold scansionref17_Word; rw [R, Option.bind_some, if_neg (by simp), if_neg hn']; rw [start_w hr]; dsimp only; rw [cnt_at hr hst0 hst1, Option.bind_some, Option.bind_some, if_pos hb']
    · have hb' : ¬ (decide (n ≥ (counts (rowsOf g)).getD ((g.Final.length : Int) - 1).toNat 0) = true) := by rw [decide_eq_true_eq]; exact hb
      obtain ⟨r, r1, r2⟩ := word_run hr h3 0 65536 ((g.Final.length : Int) - 1) n [] (by have := hr.hi; omega) hst0 hst1 (by omega) (by omega) (by simp)
      refine ⟨(r, 0), ?_, ?_⟩
      · unfold dawg_Word; rw [D, Option.bind_some, if_neg (by simp), if_neg hn']; simp only [hlen]; rw [start_w hr, cnt_at hr hst0 hst1, Option.bind_some, Option.bind_some, if_neg hb']; exact r1
      · unfold scansionref17_Word; rw [R, Option.bind_some, if_neg (by simp), if_neg hn']; rw [start_w hr]; dsimp only; rw [cnt_at hr hst0 hst1, Option.bind_some, Option.bind_some, if_neg hb']; exact r2
theorem Same_ok {cs : List Int} (hl : cs.length ≤ 1000000) : scansionref01_SameInts cs cs = some true := by
  unfold scansionref01_SameInts
  rw [if_neg (by simp)]
  have := Loop_int (b := scansionref01_SameInts.b1 cs cs) (i := 0) (n := cs.length) (Nat.zero_le _) (fun j _ hj => by
    have hj1 : cs[j]? = some cs[j] := List.getElem?_eq_getElem hj
    rw [scansionref01_SameInts.b1, if_pos (by rw [decide_eq_true_eq]; omega), idx_nat, hj1, Option.bind_some, Option.bind_some, if_neg (by simp), w64s (by omega)])
  rw [show ((0 : Nat) : Int) = 0 from rfl] at this
  rw [this]
  apply Loop_end
  rw [scansionref01_SameInts.b1, if_neg (by simp)]
  rfl
theorem bad_all {g : TGraph} (hs : Short g) (hr : ¬ RightP g) (w : Str) (n : Int) : dawg_Number g w = some (0, 1) ∧ scansionref17_Number g w = some (0, 1) ∧ dawg_Word g n = some ([], 1) ∧ scansionref17_Word g n = some ([], 1) := by
  unfold dawg_Number scansionref17_Number dawg_Word scansionref17_Word
  rw [dawg_Count_bad hs hr, ref_Count_bad hs hr]
  exact ⟨rfl, rfl, rfl, rfl⟩
theorem DawgAsks_of (haw : scansionlaw17_awake = some true) (g : TGraph) (w : Str) (n : Int) : scansionlaw17_DawgAsks g w n = some true := by
  unfold scansionlaw17_DawgAsks
  obtain ⟨b, hb, hfew⟩ := Few_eq g 60 (by omega)
  rw [haw, Option.bind_some, show (60 : Int) = ((60 : Nat) : Int) from rfl, hb, Option.bind_some]
  cases b with
  | false => rfl
  | true =>
    obtain ⟨f1, f2, f3⟩ := hfew rfl
    have hs : Short g := fun xs hx => by have := f3 xs hx; omega
    by_cases hw : w.length ≤ 100
    · rw [if_neg (by simp; omega)]
      by_cases hr : RightP g
      · have hlen : (counts (rowsOf g)).length = g.Final.length := by rw [counts_len, rows_len hr.len]
        obtain ⟨r, w1, w2⟩ := Word_eq hs f3 hr n
        rw [dawg_Count_eq hs hr, ref_Count_eq hs hr, Option.bind_some, Option.bind_some]
        dsimp only
        rw [Same_ok (by omega), dawg_Right_eq hs, ref_Right_eq hs, dawg_Has_eq hs hr (by omega), ref_Has_eq hs hr (by omega), dawg_Number_eq hs f3 hr hw, ref_Number_eq hs f3 hr hw, w1, w2]
        have hst0 : 0 ≤ (g.Final.length : Int) - 1 := by have := hr.lo; omega
        simp only [hlen, start_w hr]
        rw [cnt_at hr hst0 (by omega)]
        simp
      · obtain ⟨b1, b2, b3, b4⟩ := bad_all hs hr w n
        rw [dawg_Count_bad hs hr, ref_Count_bad hs hr, Option.bind_some, Option.bind_some]
        dsimp only
        rw [Same_ok (by simp), dawg_Right_eq hs, ref_Right_eq hs, dawg_Has_bad hs hr, ref_Has_bad hs hr, b1, b2, b3, b4]
        simp
    · rw [if_pos (by simp; omega)]
end Go.Val

/- part P10 -/
/- Plain lemmas: few, rise and right. -/
namespace Go.Val
set_option linter.unusedVariables false
theorem few_eq (l : List Str) : ∃ b, scansionlaw17_few l = some b ∧ (b = true → l.length ≤ 60 ∧ ∀ s ∈ l, s.length ≤ 70) := by
  unfold scansionlaw17_few
  by_cases h : l.length > 60
  · exact ⟨false, by rw [if_pos (by rw [decide_eq_true_eq]; omega)], fun h => by cases h⟩
  · rw [if_neg (by rw [decide_eq_true_eq]; omega)]
    have := Loop_all0 (b := scansionlaw17_few.b1 l) (fun i => ∀ s, l[i]? = some s → s.length ≤ 70) l.length (r := false) (R := true) (fun j hj hp => by
      have hj1 : l[j]? = some l[j] := List.getElem?_eq_getElem hj
      have := hp _ hj1
      rw [scansionlaw17_few.b1, if_pos (by rw [decide_eq_true_eq]; omega), idx_nat, hj1, Option.bind_some, if_neg (by rw [decide_eq_true_eq]; omega), w64s (by omega)]) (fun j hj hp => by
      have hj1 : l[j]? = some l[j] := List.getElem?_eq_getElem hj
      have : ¬ l[j].length ≤ 70 := fun h => hp fun s hs => by rw [hj1] at hs; injection hs with hs; subst hs; exact h
      rw [scansionlaw17_few.b1, if_pos (by rw [decide_eq_true_eq]; omega), idx_nat, hj1, Option.bind_some, if_pos (by rw [decide_eq_true_eq]; omega)]) (by
      rw [scansionlaw17_few.b1, if_neg (by rw [decide_eq_true_eq]; omega)]; rfl)
    by_cases hp : ∀ j, j < l.length → ∀ s, l[j]? = some s → s.length ≤ 70
    · exact ⟨true, this.1 hp, fun _ => ⟨by omega, fun s hs => by
        obtain ⟨k, hk⟩ := List.getElem?_of_mem hs
        exact hp k (List.getElem?_eq_some_iff.1 hk).1 s hk⟩⟩
    · exact ⟨false, this.2 hp, fun h => by cases h⟩
/-- A word of the right length. -/
def lenOk (s : Str) : Bool := !((decide ((s.length : Int) < 1)) || (decide ((s.length : Int) > 64)))
/-- Word number i lies above the one before it. -/
def upAt (l : List Str) (i : Nat) : Prop := ∀ a b, l[i - 1]? = some a → l[i]? = some b → (Op.bytesLess b a || b == a) = false
def RiseP (l : List Str) : Prop := (∀ s ∈ l, lenOk s = true) ∧ ∀ i, 0 < i → i < l.length → upAt l i
theorem ref_right_eq {l : List Str} (hl : l.length ≤ 5000) : (RiseP l → scansionref17_right l = some true) ∧ (¬ RiseP l → scansionref17_right l = some false) := by
  unfold scansionref17_right
  rw [if_neg (by rw [decide_eq_true_eq]; omega)]
  have val : ∀ j (hj : j < l.length), ∃ v, ((idx l (j : Int)).bind fun s => if decide ((s.length : Int) < 1) = true then some true else if decide ((s.length : Int) > 64) = true then some true else if decide ((j : Int) > 0) = true then (idx l (IntKind.i64.wrap ((j : Int) - 1))).bind fun s1 => some (Op.bytesLess s s1 || s == s1) else some false) = some v ∧ (v = false ↔ (lenOk l[j] = true ∧ (0 < j → upAt l j))) := fun j hj => by
    have hj1 : l[j]? = some l[j] := List.getElem?_eq_getElem hj
    rw [idx_nat, hj1, Option.bind_some]
    by_cases h1 : (l[j].length : Int) < 1
    · exact ⟨true, by rw [if_pos (by rw [decide_eq_true_eq]; exact h1)], by simp [lenOk]; intro h; omega⟩
    · rw [if_neg (by rw [decide_eq_true_eq]; exact h1)]
      by_cases h2 : (l[j].length : Int) > 64
      · exact ⟨true, by rw [if_pos (by rw [decide_eq_true_eq]; exact h2)], by simp [lenOk]; intro h; omega⟩
      · rw [if_neg (by rw [decide_eq_true_eq]; exact h2)]
        have hlen : lenOk l[j] = true := by unfold lenOk; rw [decide_eq_false h1, decide_eq_false h2]; rfl
        by_cases h3 : 0 < j
        · have hp1 : l[j - 1]? = some (l[j - 1]'(by omega)) := List.getElem?_eq_getElem _
          rw [if_pos (by rw [decide_eq_true_eq]; omega), w64 (by omega) (by omega), show ((j : Int) - 1) = ((j - 1 : Nat) : Int) by omega, idx_nat, hp1, Option.bind_some]
          refine ⟨_, rfl, fun h => ⟨hlen, fun _ a b ha hb => ?_⟩, fun h => h.2 h3 _ _ hp1 hj1⟩
          rw [hp1] at ha; rw [hj1] at hb; injection ha with ha; injection hb with hb; subst ha hb; exact h
        · exact ⟨false, by rw [if_neg (by rw [decide_eq_true_eq]; omega)], by simp [hlen, h3]⟩
  have := Loop_all0 (b := scansionref17_right.b1 l) (fun j => ∀ hj : j < l.length, lenOk l[j] = true ∧ (0 < j → upAt l j)) l.length (r := false) (R := true) (fun j hj hp => by
    obtain ⟨v, h1, h2⟩ := val j hj
    rw [scansionref17_right.b1, if_pos (by rw [decide_eq_true_eq]; omega), h1, Option.bind_some, h2.2 (hp hj), if_neg (by decide), w64s (by omega)]) (fun j hj hp => by
    obtain ⟨v, h1, h2⟩ := val j hj
    have hv : v = true := by cases v with
      | true => rfl
      | false => exact absurd (fun _ => h2.1 rfl) hp
    rw [scansionref17_right.b1, if_pos (by rw [decide_eq_true_eq]; omega), h1, Option.bind_some, hv, if_pos rfl]) (by
    rw [scansionref17_right.b1, if_neg (by rw [decide_eq_true_eq]; omega)]; rfl)
  have e : RiseP l ↔ ∀ j, j < l.length → ∀ hj : j < l.length, lenOk l[j] = true ∧ (0 < j → upAt l j) := ⟨fun h j _ hj => ⟨h.1 _ (List.getElem_mem hj), fun h0 => h.2 j h0 hj⟩, fun h => ⟨fun s hs => by
    obtain ⟨k, hk, rfl⟩ := List.getElem_of_mem hs
    exact (h k hk hk).1, fun i h0 hi => (h i hi hi).2 h0⟩⟩
  rw [e]; exact this
end Go.Val

/- part P11 -/
/- Plain lemmas: the farm's rise. -/
namespace Go.Val
set_option linter.unusedVariables false
theorem find_nonneg {α : Type} {g : α → Bool} {l : List α} : decide (find g l ≥ 0) = l.any g := by
  unfold find
  by_cases h : l.findIdx g < l.length
  · rw [if_pos h]
    have h2 : l.any g = true := by rw [List.any_eq_true]; exact ⟨_, List.getElem_mem h, List.findIdx_getElem (w := h)⟩
    rw [h2, decide_eq_true_eq]; omega
  · rw [if_neg h]
    have h2 : l.any g = false := by
      rw [List.any_eq_false]; intro x hx hg
      exact h (List.findIdx_lt_length_of_exists ⟨x, hx, hg⟩)
    rw [h2]; rfl
theorem rise_k1 {l : List Str} (hl : l.length ≤ 5000) : dawg_rise.k1 l = some (l.all lenOk) := by
  unfold dawg_rise.k1 slices_ContainsFunc_string_string
  rw [if_pos (by rw [decide_eq_true_eq]; omega), IndexFunc_str (g := fun s => !lenOk s) (fun x _ => by unfold dawg_rise_1 lenOk; rw [Bool.not_not]) (by omega), Option.bind_some, find_nonneg, Option.bind_some, Option.bind_some]
  simp [List.any_eq_not_all_not]
theorem dawg_rise_eq {l : List Str} (hl : l.length ≤ 5000) : (RiseP l → dawg_rise l = some true) ∧ (¬ RiseP l → dawg_rise l = some false) := by
  unfold dawg_rise
  have hk := rise_k1 hl
  have hn : l.length ≤ max 1 l.length := Nat.le_max_right _ _
  have h1n : 1 ≤ max 1 l.length := Nat.le_max_left _ _
  by_cases h0 : l.length ≤ 1
  · have hs : Loop (dawg_rise.b1 l) 1 = dawg_rise.k1 l := Loop_end (by rw [dawg_rise.b1, if_neg (by rw [decide_eq_true_eq]; omega)])
    rw [hs, hk]
    have e : RiseP l ↔ l.all lenOk = true := ⟨fun h => List.all_eq_true.2 h.1, fun h => ⟨List.all_eq_true.1 h, fun i h1 h2 => by omega⟩⟩
    rw [e]
    cases l.all lenOk <;> simp
  · have step : ∀ j, 1 ≤ j → j < l.length → dawg_rise.b1 l (j : Int) = (if (Op.bytesLess (l[j]?.getD []) (l[j - 1]?.getD []) || l[j]?.getD [] == l[j - 1]?.getD []) = true then some (.done false) else some (.next ((j + 1 : Nat) : Int))) := fun j h1 hj => by
      have hj1 : l[j]? = some l[j] := List.getElem?_eq_getElem hj
      have hp1 : l[j - 1]? = some (l[j - 1]'(by omega)) := List.getElem?_eq_getElem _
      rw [dawg_rise.b1, if_pos (by rw [decide_eq_true_eq]; omega), idx_nat, hj1, Option.bind_some, w64 (by omega) (by omega), show ((j : Int) - 1) = ((j - 1 : Nat) : Int) by omega, idx_nat, hp1, Option.bind_some, w64s (by omega)]
      rfl
    have up_iff : ∀ j, 1 ≤ j → j < l.length → (upAt l j ↔ ¬ (Op.bytesLess (l[j]?.getD []) (l[j - 1]?.getD []) || l[j]?.getD [] == l[j - 1]?.getD []) = true) := fun j h1 hj => by
      have hj1 : l[j]? = some l[j] := List.getElem?_eq_getElem hj
      have hp1 : l[j - 1]? = some (l[j - 1]'(by omega)) := List.getElem?_eq_getElem _
      rw [Bool.not_eq_true]
      refine ⟨fun h => ?_, fun h a b ha hb => ?_⟩
      · have := h _ _ hp1 hj1
        rw [hj1, hp1]; exact this
      · rw [ha, hb] at h; exact h
    have fst : ∀ m, m ≤ l.length → (∀ j, 1 ≤ j → j < m → upAt l j) ∨ ∃ k, 1 ≤ k ∧ k < m ∧ ¬ upAt l k ∧ ∀ j, 1 ≤ j → j < k → upAt l j := by
      intro m
      induction m with
      | zero => intro _; exact .inl fun j _ h => by omega
      | succ m ih =>
        intro hm
        rcases ih (by omega) with h | ⟨k, h1, h2, h3⟩
        · by_cases hz : 1 ≤ m
          · by_cases hu : upAt l m
            · exact .inl fun j h1 h2 => by
                by_cases e : j = m
                · subst e; exact hu
                · exact h j h1 (by omega)
            · exact .inr ⟨m, hz, by omega, hu, h⟩
          · exact .inl fun j h1 h2 => by omega
        · exact .inr ⟨k, h1, by omega, h3⟩
    rcases fst l.length (Nat.le_refl _) with h | ⟨k, h1, h2, h3, h4⟩
    · have hrun := Loop_int (b := dawg_rise.b1 l) (i := 1) (n := l.length) (by omega) (fun j q1 q2 => by rw [step j q1 q2, if_neg ((up_iff j q1 q2).1 (h j q1 q2))])
      rw [show ((1 : Nat) : Int) = 1 from rfl] at hrun
      have hs : Loop (dawg_rise.b1 l) 1 = dawg_rise.k1 l := by rw [hrun]; exact Loop_end (by rw [dawg_rise.b1, if_neg (by rw [decide_eq_true_eq]; omega)])
      rw [hs, hk]
      have e : RiseP l ↔ l.all lenOk = true := ⟨fun h => List.all_eq_true.2 h.1, fun hh => ⟨List.all_eq_true.1 hh, fun i q1 q2 => h i q1 q2⟩⟩
      rw [e]
      cases l.all lenOk <;> simp
    · have hrun := Loop_int (b := dawg_rise.b1 l) (i := 1) (n := k) (by omega) (fun j q1 q2 => by rw [step j q1 (by omega), if_neg ((up_iff j q1 (by omega)).1 (h4 j q1 q2))])
      rw [show ((1 : Nat) : Int) = 1 from rfl] at hrun
      have hs : Loop (dawg_rise.b1 l) 1 = some false := by
        rw [hrun]
        refine Loop_done ?_
        rw [step k h1 h2, if_pos]
        exact Classical.byContradiction fun hh => h3 ((up_iff k h1 h2).2 hh)
      exact ⟨fun hr => absurd (hr.2 k h1 h2) h3, fun _ => hs⟩
end Go.Val

/- part P12 -/
/- Plain lemmas: what is behind a letter; the one text of a set of ends. -/
namespace Go.Val
set_option linter.unusedVariables false
def hasL (b : UInt8) (s : Str) : Bool := s.head? == some b
/-- What stands behind a letter. -/
def beh (ends : List Str) (b : UInt8) : List Str := (ends.filter (hasL b)).map List.tail
theorem beh_snoc {l : List Str} {s : Str} {b : UInt8} : beh (l ++ [s]) b = beh l b ++ (if hasL b s then [s.tail] else []) := by
  unfold beh
  rw [List.filter_append, List.map_append]
  cases h : hasL b s <;> simp [List.filter, h]
theorem beh_len {l : List Str} {b : UInt8} : (beh l b).length ≤ l.length := by
  unfold beh; rw [List.length_map]; exact List.length_filter_le _ _
theorem ref_behind_eq {l : List Str} (hl : l.length ≤ 1000000) (b : UInt8) : scansionref17_behind l b = some (beh l b) := by
  unfold scansionref17_behind
  have := Loop_run (b := scansionref17_behind.b1 l b) (fun k => (beh (l.take k) b, (k : Int))) (i := 0) (n := l.length) (Nat.zero_le _) (fun j _ hj => by
    have hj1 : l[j]? = some l[j] := List.getElem?_eq_getElem hj
    have hbl : (beh (l.take j) b).length ≤ 1000000 := Nat.le_trans beh_len (by rw [List.length_take]; omega)
    show scansionref17_behind.b1 l b (_, (j : Int)) = _
    rw [scansionref17_behind.b1, if_pos (by rw [decide_eq_true_eq]; omega), idx_nat, hj1, Option.bind_some, take_snoc hj1, beh_snoc]
    unfold scansionref17_behind.k2
    cases hs : l[j] with
    | nil =>
      rw [if_neg (by simp), Option.bind_some, if_neg (by decide), w64s (by omega)]
      simp [hasL]
    | cons c t =>
      rw [if_pos (by simp)]
      have hc : (c :: t)[0]? = some c := rfl
      rw [hc, Option.bind_some, Option.bind_some, lab_eq]
      have hh : hasL b (c :: t) = (c == b) := by unfold hasL; rw [List.head?_cons]; rfl
      rw [hh]
      cases h : c == b with
      | false => rw [if_neg (by decide), if_neg (by decide), w64s (by omega), List.append_nil]
      | true =>
        rw [if_pos rfl, if_pos rfl, Option.bind_some, room_ok (by omega), w64s (by omega)]
        have hcut : cutL (c :: t) (1 : Int) = some t := by unfold cutL; rw [if_pos (by simp; omega)]; rfl
        rw [hcut]
        rfl)
  simp only [List.take_zero, List.take_length, show ((0 : Nat) : Int) = 0 from rfl] at this
  rw [show beh [] b = [] from rfl] at this
  rw [this]
  apply Loop_end
  rw [scansionref17_behind.b1, if_neg (by rw [decide_eq_true_eq]; omega)]
  rfl
/-- The one text: each end with its length ahead. -/
def oneS (ends : List Str) : Str := ends.flatMap fun s => u8 (IntKind.u8.wrap (s.length : Int)) :: s
theorem oneS_snoc {l : List Str} {s : Str} : oneS (l ++ [s]) = oneS l ++ (u8 (IntKind.u8.wrap (s.length : Int)) :: s) := by unfold oneS; rw [List.flatMap_append]; simp
theorem ref_one_eq {l : List Str} (hl : l.length ≤ 1000000) (h7 : ∀ s ∈ l, s.length ≤ 70) : scansionref17_one l = some (oneS l) := by
  unfold scansionref17_one
  have hlen : ∀ k, k ≤ l.length → (oneS (l.take k)).length ≤ 71 * k := by
    intro k
    induction k with
    | zero => intro _; simp [oneS]
    | succ k ih =>
      intro hk
      have hk1 : l[k]? = some (l[k]'(by omega)) := List.getElem?_eq_getElem _
      have h1 := ih (by omega)
      have h2 := h7 (l[k]'(by omega)) (List.getElem_mem _)
      rw [take_snoc hk1]
      rw [oneS_snoc, List.length_append, List.length_cons]; omega
  have := Loop_run (b := scansionref17_one.b1 l) (fun k => (oneS (l.take k), (k : Int))) (i := 0) (n := l.length) (Nat.zero_le _) (fun j _ hj => by
    have hj1 : l[j]? = some l[j] := List.getElem?_eq_getElem hj
    have h1 := hlen j (by omega)
    have h2 := h7 l[j] (List.getElem_mem _)
    show scansionref17_one.b1 l (_, (j : Int)) = _
    rw [scansionref17_one.b1, if_pos (by rw [decide_eq_true_eq]; omega), idx_nat, hj1, Option.bind_some, roomS_ok (by omega), Option.bind_some, roomS_ok (by omega), Option.bind_some, w64s (by omega), take_snoc hj1, oneS_snoc, List.append_assoc]
    rfl)
  simp only [List.take_zero, List.take_length, show ((0 : Nat) : Int) = 0 from rfl] at this
  rw [show oneS [] = [] from rfl] at this
  rw [this]
  apply Loop_end
  rw [scansionref17_one.b1, if_neg (by rw [decide_eq_true_eq]; omega)]
  rfl
end Go.Val

/- part P13 -/
/- Plain lemmas: the one text tells the ends. -/
namespace Go.Val
set_option linter.unusedVariables false
theorem u8_len {n m : Nat} (hn : n ≤ 255) (hm : m ≤ 255) (h : u8 (IntKind.u8.wrap (n : Int)) = u8 (IntKind.u8.wrap (m : Int))) : n = m := by
  have e : ∀ k : Nat, k ≤ 255 → (u8 (IntKind.u8.wrap (k : Int))).toNat = k := by
    intro k hk
    have hw : IntKind.u8.wrap (k : Int) = (k : Int) := by
      simp [IntKind.wrap, IntKind.signed, IntKind.bits]; omega
    rw [hw]
    unfold u8
    simp
    omega
  rw [← e n hn, ← e m hm, h]
theorem oneS_inj : ∀ {l m : List Str}, (∀ s ∈ l, s.length ≤ 70) → (∀ s ∈ m, s.length ≤ 70) → oneS l = oneS m → l = m
  | [], [], _, _, _ => rfl
  | [], s :: m, _, _, h => by simp [oneS] at h
  | s :: l, [], _, _, h => by simp [oneS] at h
  | s :: l, t :: m, h1, h2, h => by
    have e1 : oneS (s :: l) = u8 (IntKind.u8.wrap (s.length : Int)) :: (s ++ oneS l) := by unfold oneS; rw [List.flatMap_cons]; rfl
    have e2 : oneS (t :: m) = u8 (IntKind.u8.wrap (t.length : Int)) :: (t ++ oneS m) := by unfold oneS; rw [List.flatMap_cons]; rfl
    rw [e1, e2] at h
    injection h with ha hb
    have hs := h1 s (by simp)
    have ht := h2 t (by simp)
    have hl := u8_len (by omega) (by omega) ha
    obtain ⟨q1, q2⟩ := List.append_inj hb hl
    rw [q1, oneS_inj (fun x hx => h1 x (by simp [hx])) (fun x hx => h2 x (by simp [hx])) q2]
end Go.Val

/- part P14 -/
/- Plain lemmas: the farm's key tells the state. -/
namespace Go.Val
set_option linter.unusedVariables false
theorem u8w {n : Int} : ((u8 (IntKind.u8.wrap n)).toNat : Int) = n % 256 := by
  rw [u8_wrap]; simp [IntKind.wrap, IntKind.signed, IntKind.bits]
theorem sh24 {n : Int} : shR .i64 n 24 = n / 16777216 := by unfold shR; rw [show (2 : Int) ^ (min (24 : Int).toNat IntKind.i64.bits) = 16777216 from rfl, Int.fdiv_eq_ediv_of_nonneg _ (by omega)]
theorem sh16 {n : Int} : shR .i64 n 16 = n / 65536 := by unfold shR; rw [show (2 : Int) ^ (min (16 : Int).toNat IntKind.i64.bits) = 65536 from rfl, Int.fdiv_eq_ediv_of_nonneg _ (by omega)]
theorem sh8 {n : Int} : shR .i64 n 8 = n / 256 := by unfold shR; rw [show (2 : Int) ^ (min (8 : Int).toNat IntKind.i64.bits) = 256 from rfl, Int.fdiv_eq_ediv_of_nonneg _ (by omega)]
def ToOk (x : TEdge) : Prop := 0 ≤ x.To ∧ x.To < 4294967296
theorem kb_inj {x y : TEdge} (hx : ToOk x) (hy : ToOk y) (h : kb x = kb y) : x = y := by
  obtain ⟨l1, t1⟩ := x; obtain ⟨l2, t2⟩ := y
  unfold ToOk at hx hy
  unfold kb at h
  simp only [List.cons.injEq, and_true] at h hx hy
  obtain ⟨h0, h1, h2, h3, h4⟩ := h
  have c : ∀ {a b : Int}, u8 (IntKind.u8.wrap a) = u8 (IntKind.u8.wrap b) → a % 256 = b % 256 := fun {a b} e => by rw [← u8w, ← u8w, e]
  have g1 := c h1; have g2 := c h2; have g3 := c h3; have g4 := c h4
  rw [sh24, sh24] at g1; rw [sh16, sh16] at g2; rw [sh8, sh8] at g3
  have : t1 = t2 := by omega
  rw [h0, this]
theorem kbs_inj : ∀ {es fs : List TEdge}, (∀ x ∈ es, ToOk x) → (∀ x ∈ fs, ToOk x) → es.flatMap kb = fs.flatMap kb → es = fs
  | [], [], _, _, _ => rfl
  | [], y :: fs, _, _, h => by simp [kb] at h
  | x :: es, [], _, _, h => by simp [kb] at h
  | x :: es, y :: fs, h1, h2, h => by
    rw [List.flatMap_cons, List.flatMap_cons] at h
    obtain ⟨q1, q2⟩ := List.append_inj h rfl
    rw [kb_inj (h1 x (by simp)) (h2 y (by simp)) q1, kbs_inj (fun z hz => h1 z (by simp [hz])) (fun z hz => h2 z (by simp [hz])) q2]
theorem key_inj {f e : Bool} {es fs : List TEdge} (h1 : ∀ x ∈ es, ToOk x) (h2 : ∀ x ∈ fs, ToOk x) (h : keyOf f es = keyOf e fs) : f = e ∧ es = fs := by
  unfold keyOf at h
  injection h with ha hb
  exact ⟨by cases f <;> cases e <;> simp_all, kbs_inj h1 h2 hb⟩
end Go.Val

/- part P15 -/
/- Plain lemmas: a graph is the same as itself. -/
namespace Go.Val
set_option linter.unusedVariables false
theorem Same_self {g : TGraph} (hf : g.Final.length ≤ 1000000) (he : g.Edges.length ≤ 1000000) (hr : ∀ xs ∈ g.Edges, xs.length ≤ 1000000) : scansionref17_Same g g = some true := by
  unfold scansionref17_Same
  rw [if_neg (by simp)]
  have h1 := Loop_int (b := scansionref17_Same.b3 g g) (i := 0) (n := g.Final.length) (Nat.zero_le _) (fun j _ hj => by
    have hj1 : g.Final[j]? = some g.Final[j] := List.getElem?_eq_getElem hj
    rw [scansionref17_Same.b3, if_pos (by rw [decide_eq_true_eq]; omega), idx_nat, hj1, Option.bind_some, Option.bind_some, if_neg (by simp), w64s (by omega)])
  rw [show ((0 : Nat) : Int) = 0 from rfl] at h1
  rw [h1]
  apply Loop_end
  rw [scansionref17_Same.b3, if_neg (by rw [decide_eq_true_eq]; omega)]
  congr 1
  unfold scansionref17_Same.k1
  have h2 := Loop_int (b := scansionref17_Same.b1 g g) (i := 0) (n := g.Edges.length) (Nat.zero_le _) (fun j _ hj => by
    have hj1 : g.Edges[j]? = some g.Edges[j] := List.getElem?_eq_getElem hj
    have hl := hr _ (List.getElem_mem hj)
    rw [scansionref17_Same.b1, if_pos (by rw [decide_eq_true_eq]; omega), idx_nat, hj1, Option.bind_some, Option.bind_some, if_neg (by simp)]
    have h3 := Loop_int (b := scansionref17_Same.b2 (j : Int) g.Edges[j] g.Edges[j]) (i := 0) (n := g.Edges[j].length) (Nat.zero_le _) (fun k _ hk => by
      have hk1 : g.Edges[j][k]? = some g.Edges[j][k] := List.getElem?_eq_getElem hk
      rw [scansionref17_Same.b2, if_pos (by rw [decide_eq_true_eq]; omega), idx_nat, hk1, Option.bind_some, Option.bind_some, if_neg (by simp), w64s (by omega)])
    rw [show ((0 : Nat) : Int) = 0 from rfl] at h3
    rw [h3]
    apply Loop_end
    rw [scansionref17_Same.b2, if_neg (by rw [decide_eq_true_eq]; omega)]
    unfold scansionref17_Same.k3
    rw [w64s (by omega)])
  rw [show ((0 : Nat) : Int) = 0 from rfl] at h2
  rw [h2]
  apply Loop_end
  rw [scansionref17_Same.b1, if_neg (by rw [decide_eq_true_eq]; omega)]
  rfl
end Go.Val

/- part P16 -/
/- Plain lemmas: the table of ends, and the graph of a table. -/
namespace Go.Val
set_option linter.unusedVariables false
def letters : List UInt8 := (List.range 256).map fun n => UInt8.ofNat n
theorem letters_len : letters.length = 256 := by simp [letters]
theorem letters_at {n : Nat} (h : n < 256) : letters[n]? = some (UInt8.ofNat n) := by
  unfold letters; rw [List.getElem?_map, List.getElem?_range h]; rfl
theorem letters_mem (c : UInt8) : c ∈ letters := by
  unfold letters; rw [List.mem_map]; exact ⟨c.toNat, List.mem_range.2 c.toNat_lt, UInt8.ofNat_toNat⟩
/-- The table after a set of ends, and all that is behind it, was looked for. -/
def adds : Nat → List (List Str) → List Str → List (List Str)
  | 0, T, _ => T
  | k + 1, T, e => if e ∈ T then T else (letters.foldl (fun T c => if beh e c = [] then T else adds k T (beh e c)) T) ++ [e]
def rowOf (T : List (List Str)) (e : List Str) : List TEdge := letters.filterMap fun c => if beh e c = [] then none else some ⟨c, (T.idxOf (beh e c) : Int)⟩
def finOf (e : List Str) : Bool := e.head? == some []
def graphT (T : List (List Str)) : TGraph := ⟨T.map finOf, T.map (rowOf T)⟩
structure Good (T : List (List Str)) : Prop where
  nodup : T.Nodup
  beh : ∀ i e, T[i]? = some e → ∀ c, beh e c ≠ [] → beh e c ∈ T.take i
theorem Good.mem {T : List (List Str)} (h : Good T) {e : List Str} (he : e ∈ T) (c : UInt8) (hc : Go.Val.beh e c ≠ []) : Go.Val.beh e c ∈ T := by
  obtain ⟨i, hi⟩ := List.getElem?_of_mem he
  exact List.mem_of_mem_take (h.beh i e hi c hc)
theorem idxOf_app {α : Type} [BEq α] [LawfulBEq α] {l m : List α} {x : α} (h : x ∈ l) : (l ++ m).idxOf x = l.idxOf x := by rw [List.idxOf_append, if_pos h]
/-- A row stays as it is when the table grows. -/
theorem rowOf_app {T U : List (List Str)} {e : List Str} (h : ∀ c, beh e c ≠ [] → beh e c ∈ T) : rowOf (T ++ U) e = rowOf T e := by
  unfold rowOf
  congr 1
  funext c
  by_cases hc : beh e c = []
  · rw [if_pos hc, if_pos hc]
  · rw [if_neg hc, if_neg hc, idxOf_app (h c hc)]
theorem Good.snoc {T : List (List Str)} (h : Good T) {e : List Str} (he : e ∉ T) (hb : ∀ c, Go.Val.beh e c ≠ [] → Go.Val.beh e c ∈ T) : Good (T ++ [e]) where
  nodup := by
    rw [List.nodup_append]
    exact ⟨h.nodup, by simp, fun a ha b hb2 => by simp at hb2; subst hb2; exact fun e2 => he (e2 ▸ ha)⟩
  beh := fun i f hf c hc => by
    by_cases hi : i < T.length
    · rw [List.getElem?_append_left hi] at hf
      rw [List.take_append_of_le_length (by omega)]
      exact h.beh i f hf c hc
    · have hil := (List.getElem?_eq_some_iff.1 hf).1
      have : i = T.length := by simp at hil; omega
      subst this
      rw [List.getElem?_append_right (Nat.le_refl _)] at hf
      simp at hf; subst hf
      rw [List.take_append_of_le_length (Nat.le_refl _), List.take_length]
      exact hb c hc
theorem graphT_snoc {T : List (List Str)} (h : Good T) {e : List Str} (hb : ∀ c, Go.Val.beh e c ≠ [] → Go.Val.beh e c ∈ T) : graphT (T ++ [e]) = ⟨(graphT T).Final ++ [finOf e], (graphT T).Edges ++ [rowOf T e]⟩ := by
  unfold graphT
  simp only [List.map_append, List.map_cons, List.map_nil]
  rw [rowOf_app hb]
  congr 2
  apply List.map_congr_left
  intro f hf
  exact rowOf_app fun c hc => h.mem hf c hc
end Go.Val

/- part P17 -/
/- Plain lemmas: the table stays good. -/
namespace Go.Val
set_option linter.unusedVariables false
def Low (k : Nat) (e : List Str) : Prop := 0 < k ∧ ∀ s ∈ e, s.length < k
theorem beh_mem {e : List Str} {c : UInt8} {t : Str} (h : t ∈ beh e c) : ∃ s ∈ e, s = c :: t := by
  unfold beh at h
  obtain ⟨s, hs, rfl⟩ := List.mem_map.1 h
  obtain ⟨h1, h2⟩ := List.mem_filter.1 hs
  refine ⟨s, h1, ?_⟩
  cases s with
  | nil => simp [hasL] at h2
  | cons d s => simp [hasL] at h2; rw [h2]; rfl
theorem Low.beh {k : Nat} {e : List Str} (h : Low (k + 1) e) {c : UInt8} (hc : Go.Val.beh e c ≠ []) : Low k (Go.Val.beh e c) := by
  have key : ∀ t ∈ Go.Val.beh e c, t.length < k := fun t ht => by
    obtain ⟨s, hs, rfl⟩ := beh_mem ht
    have := h.2 _ hs
    simp at this; exact this
  obtain ⟨t, ht⟩ := List.exists_mem_of_ne_nil _ hc
  exact ⟨by have := key t ht; omega, key⟩
def fstep (k : Nat) (e : List Str) (T : List (List Str)) (c : UInt8) : List (List Str) := if beh e c = [] then T else adds k T (beh e c)
theorem adds_succ {k : Nat} {T : List (List Str)} {e : List Str} : adds (k + 1) T e = if e ∈ T then T else (letters.foldl (fstep k e) T) ++ [e] := rfl
def tot (e : List Str) : Nat := (e.map List.length).sum
theorem tot_beh {e : List Str} {c : UInt8} : tot (beh e c) + (beh e c).length ≤ tot e := by
  induction e using snoc_ind with
  | h0 => simp [tot, beh]
  | h1 l s ih =>
    rw [beh_snoc]
    by_cases h : hasL c s
    · rw [if_pos h]
      have : 1 ≤ s.length := by cases s with
        | nil => simp [hasL] at h
        | cons d s => simp
      simp [tot] at ih ⊢; omega
    · rw [if_neg h, List.append_nil]
      simp [tot] at ih ⊢; omega
theorem tot_lt {e : List Str} {c : UInt8} (h : beh e c ≠ []) : tot (beh e c) < tot e := by
  have := tot_beh (e := e) (c := c)
  have := List.length_pos_iff.2 h
  omega
theorem adds_good : ∀ (k : Nat) (T : List (List Str)) (e : List Str), Low k e → Good T → Good (adds k T e) ∧ e ∈ adds k T e ∧ ∃ V, adds k T e = T ++ V ∧ ∀ f ∈ V, tot f ≤ tot e
  | 0, T, e, hl, hg => by have := hl.1; omega
  | k + 1, T, e, hl, hg => by
    rw [adds_succ]
    by_cases he : e ∈ T
    · rw [if_pos he]; exact ⟨hg, he, [], by simp, by simp⟩
    · rw [if_neg he]
      have fold : ∀ (cs : List UInt8) (T : List (List Str)), Good T → Good (cs.foldl (fstep k e) T) ∧ (∃ V, cs.foldl (fstep k e) T = T ++ V ∧ ∀ f ∈ V, tot f < tot e) ∧ ∀ c ∈ cs, beh e c ≠ [] → beh e c ∈ cs.foldl (fstep k e) T := by
        intro cs
        induction cs with
        | nil => intro T hg; exact ⟨hg, ⟨[], by simp, by simp⟩, fun c hc => by cases hc⟩
        | cons c cs ih =>
          intro T hg
          have h1 : Good (fstep k e T c) ∧ (∃ V, fstep k e T c = T ++ V ∧ ∀ f ∈ V, tot f < tot e) ∧ (beh e c ≠ [] → beh e c ∈ fstep k e T c) := by
            unfold fstep
            by_cases hc : beh e c = []
            · rw [if_pos hc]; exact ⟨hg, ⟨[], by simp, by simp⟩, fun h => absurd hc h⟩
            · rw [if_neg hc]
              obtain ⟨a1, a2, V, a3, a4⟩ := adds_good k T (beh e c) (hl.beh hc) hg
              exact ⟨a1, ⟨V, a3, fun f hf => Nat.lt_of_le_of_lt (a4 f hf) (tot_lt hc)⟩, fun _ => a2⟩
          obtain ⟨b1, ⟨V, b2, b4⟩, b3⟩ := ih _ h1.1
          obtain ⟨W, hW, hW2⟩ := h1.2.1
          rw [List.foldl_cons]
          refine ⟨b1, ⟨W ++ V, by rw [b2, hW, List.append_assoc], fun f hf => ?_⟩, fun d hd hne => ?_⟩
          · rcases List.mem_append.1 hf with h | h
            · exact hW2 f h
            · exact b4 f h
          · rcases List.mem_cons.1 hd with rfl | hd
            · rw [b2]; exact List.mem_append_left _ (h1.2.2 hne)
            · exact b3 d hd hne
      obtain ⟨f1, ⟨V, f2, f4⟩, f3⟩ := fold letters T hg
      have hne : e ∉ letters.foldl (fstep k e) T := by
        rw [f2]; intro h
        rcases List.mem_append.1 h with h | h
        · exact he h
        · exact absurd (f4 e h) (Nat.lt_irrefl _)
      refine ⟨f1.snoc hne fun c hc => f3 c (letters_mem c) hc, by simp, V ++ [e], by rw [f2, List.append_assoc], fun f hf => ?_⟩
      rcases List.mem_append.1 hf with h | h
      · exact Nat.le_of_lt (f4 f h)
      · simp at h; subst h; exact Nat.le_refl _
end Go.Val

/- A value semantics of the model's programs, sound against it, and functions read off the given program with the proofs that it runs so; no condition. -/
import Derived.Test.YtobjdbpikecnnaaOwnD
import Derived.Test.YtobjdbpikecnnaaOwnC
set_option linter.all false
set_option linter.unnecessarySimpa false
set_option linter.unusedVariables false
set_option linter.unusedSimpArgs false
/- part GW60 -/
/- (*scansion/scansionref18.Array).Save runs as it is read off. -/
namespace Go.Val
set_option linter.unusedVariables false
set_option linter.unusedSimpArgs false
set_option maxRecDepth 20000
open Go.Proofs
theorem scansionref18_Array_Save_runs (a_ : Tscansionref18_Array) (l0 : Nat) {h : Heap} (ha0 : h.at_ l0 = some (.cells [.val (.sl (List.map eB a_.G.Final)), .val (.sl (List.map (eL eEdge) a_.G.Edges)), .val (.int .i64 a_.Cells)])) {a : List UInt8} (e : scansionref18_Array_Save a_ = some a) :
    Runs CT 60 [.cv (.val (.ptr (some (l0, 0))))] h fun o h' => o = [.cv (.val (.sl (List.map eU a)))] ∧ h' = h := by
  refine Runs.start Try.f60 _ Try.func60 rfl (by rw [Try.ntmps60]; simp) (by rfl) (by rfl) (fun hwf hu => ?_)
  have hl0 := (hwf _ _ ha0).1
  have kl0 := locF hl0
  obtain ⟨D, hD, hr⟩ : ∃ D : List UInt8 → Prop, (∀ z, D z → z = a) ∧ Holds (scansionref18_Array_Save a_) D := ⟨fun z => z = a, fun _ h => h, Holds.intro e rfl⟩
  dsimp only [scansionref18_Array_Save] at hr
  change wpCode _ _ _ _ _ ⟨[(0, .cv (.val (.ptr (some (l0, 0)))))], h.on []⟩
  refine w_seq ?_
  refine A_region ?_
  refine w_n ?_
  refine w_seq ?_
  refine A_ops ?_
  refine A_upto 6 ?_
  obtain ⟨r, eF1, hr⟩ := hr.bind
  refine A_call (out := ?o_eF1) (hp := ?p_eF1) ?c_eF1 ?d_eF1 ?_
  case c_eF1 => exact scansionref14_Number_runs (a_.G.Final.length : Int) eF1
  case d_eF1 => rfl
  refine A_ops_end ?_
  refine w_n ?_
  refine w_seq ?_
  refine w_seq ?_
  refine A_region ?_
  refine w_n ?_
  refine w_K (D := D) (fun xX : List UInt8 => ⟨[(3, .cv (.row 5 (List.map eU xX)))], h.on []⟩) (fun xX : List UInt8 => scansionref18_Array_Save.k1 xX) (fun xX s' hr ht => ?_) ?_
  · obtain ⟨out, rfl⟩ : ∃ z, z = xX := ⟨xX, rfl⟩
    dsimp only [scansionref18_Array_Save.k1] at hr ht
    refine (w_nT ht ?_)
    refine w_seq ?_
    refine A_region ?_
    refine w_n ?_
    refine w_ret ?_
    obtain rfl := hD _ hr
    exact (A_endR (.fix _ _ (.slot 2) 5 _ (by simp (disch := (apply Apart.mk; decide)) only [go_sem, Nat.reduceAdd, Nat.reduceLT, Nat.reduceMul, Nat.reduceLeDiff, Int.reduceToNat, Int.reduceLT, Int.reduceLE, ha0, on_atB hl0, lt_add hl0, lt_at hl0]; rfl) (A_cut (os' := []) (sl := [(2, .cv (.val (.sl (List.map eU out))))]) hwf)) ⟨rfl, on_nil hwf⟩)
  · refine w_block ?_
    refine w_Loop (fun xX : (List UInt8 × Int) => ⟨[(0, .cv (.val (.ptr (some (l0, 0))))), (3, .cv (.row 5 (List.map eU xX.1))), (4, .cv (.val (.int .i64 xX.2)))], h.on []⟩) hr (A_cut hwf) (fun W1 xX hr => ?_)
    obtain ⟨out1, s⟩ := xX
    dsimp only [scansionref18_Array_Save.b1] at hr
    refine w_seq ?_
    refine w_seq ?_
    refine A_region ?_
    refine w_n ?_
    refine A_condH hr (fun cF2 hr => ?_) (fun cF2 hr => ?_)
    · refine w_skip ?_
      refine w_n ?_
      refine w_seq ?_
      refine w_K (D := (Aft W1 D)) (fun xX : List UInt8 => ⟨[(0, .cv (.val (.ptr (some (l0, 0))))), (3, .cv (.row 5 (List.map eU xX))), (4, .cv (.val (.int .i64 s)))], h.on []⟩) (fun xX : List UInt8 => scansionref18_Array_Save.k2 s xX) (fun xX s' hr ht => ?_) ?_
      · obtain ⟨out2, rfl⟩ : ∃ z, z = xX := ⟨xX, rfl⟩
        dsimp only [scansionref18_Array_Save.k2] at hr ht
        refine (w_nT ht ?_)
        refine A_region ?_
        exact (w_k ⟨(out2, (IntKind.i64.wrap (s + (1 : Int)))), hr, (A_cut hwf)⟩)
      · refine w_block ?_
        refine w_seq ?_
        refine A_region ?_
        refine w_n ?_
        refine w_seq ?_
        refine w_seq ?_
        obtain ⟨b, nF3, eF4, gF5, hr⟩ := hr.idx
        refine A_region ?_
        refine w_n ?_
        refine w_K (D := (Aft W1 D)) (fun xX : UInt8 => ⟨[(0, .cv (.val (.ptr (some (l0, 0))))), (3, .cv (.row 5 (List.map eU out1))), (4, .cv (.val (.int .i64 s))), (5, .cv (.val (.int .u8 (xX.toNat : Int))))], h.on []⟩) (fun xX : UInt8 => scansionref18_Array_Save.k3 a_ out1 s xX) (fun xX s' hr ht => ?_) ?_
        · obtain ⟨final, rfl⟩ : ∃ z, z = xX := ⟨xX, rfl⟩
          dsimp only [scansionref18_Array_Save.k3] at hr ht
          refine (w_nT ht ?_)
          refine w_seq ?_
          obtain ⟨nF6, hr⟩ := hr.room
          refine A_region ?_
          refine w_n ?_
          refine w_seq ?_
          refine A_ops ?_
          obtain ⟨xs, nF7, eF8, gF9, hr⟩ := hr.idx
          refine A_upto 10 ?_
          obtain ⟨r1, eF10, hr⟩ := hr.bind
          refine A_call (out := ?o_eF10) (hp := ?p_eF10) ?c_eF10 ?d_eF10 ?_
          case c_eF10 => exact scansionref14_Number_runs (xs.length : Int) eF10
          case d_eF10 => rfl
          obtain ⟨nF11, hr⟩ := hr.room
          refine A_ops_end ?_
          refine w_n ?_
          refine w_seq ?_
          refine A_region ?_
          refine w_n ?_
          refine w_block ?_
          refine w_Loop (fun xX : (List UInt8 × Int) => ⟨[(0, .cv (.val (.ptr (some (l0, 0))))), (3, .cv (.row 5 (List.map eU xX.1))), (4, .cv (.val (.int .i64 s))), (6, .cv (.val (.int .i64 xX.2)))], h.on []⟩) hr (A_cut hwf) (fun W2 xX hr => ?_)
          obtain ⟨out3, k⟩ := xX
          dsimp only [scansionref18_Array_Save.b2] at hr
          refine w_seq ?_
          refine w_seq ?_
          refine A_region ?_
          refine w_n ?_
          refine A_condH hr (fun cF12 hr => ?_) (fun cF12 hr => ?_)
          · refine w_skip ?_
            refine w_n ?_
            refine w_seq ?_
            refine w_block ?_
            refine w_seq ?_
            obtain ⟨x, nF13, eF14, gF15, hr⟩ := hr.idx
            obtain ⟨nF16, hr⟩ := hr.room
            refine A_region ?_
            refine w_n ?_
            refine A_ops ?_
            refine A_upto 13 ?_
            obtain ⟨r2, eF17, hr⟩ := hr.bind
            refine A_call (out := ?o_eF17) (hp := ?p_eF17) ?c_eF17 ?d_eF17 ?_
            case c_eF17 => exact scansionref14_Number_runs x.To eF17
            case d_eF17 => rfl
            obtain ⟨nF18, hr⟩ := hr.room
            refine A_ops_end ?_
            refine (w_bn (w_n ?_))
            refine A_region ?_
            exact (w_k ⟨(((out3 ++ ([x.Label])) ++ r2), (IntKind.i64.wrap (k + (1 : Int)))), hr, (A_cut hwf)⟩)
          · refine w_exit ?_
            exact (w_te (w_te (w_bx (w_bn (w_k ⟨out3, (hr).map, (A_cut hwf)⟩)))))
        · refine A_condH hr (fun cF19 hr => ?_) (fun cF19 hr => ?_)
          · refine A_region ?_
            exact (w_k ⟨(u8 (1 : Int)), hr, (A_cut hwf)⟩)
          · refine w_skip ?_
            exact (w_k ⟨(u8 (0 : Int)), hr, (A_cut hwf)⟩)
    · refine w_exit ?_
      exact (w_te (w_te (w_bx (w_k ⟨out1, (hr).map, (A_cut hwf)⟩))))
end Go.Val

/- part GW43 -/
/- scansion/scansionlaw18.alike runs as it is read off. -/
namespace Go.Val
set_option linter.unusedVariables false
set_option linter.unusedSimpArgs false
set_option maxRecDepth 20000
open Go.Proofs
theorem scansionlaw18_alike_runs (a_ : Tdarray_Array) (w : Tscansionref18_Array) (b : List UInt8) (l0 : Nat) (l1 : Nat) {h : Heap} (ha0 : h.at_ l0 = some (.cells [.val (.sl (List.map eB a_.graph.Final)), .val (.sl (List.map (eL eEdge) a_.graph.Edges)), .row 3 (List.map eI a_.base), .row 91 (List.map edarray_cell a_.cells), .val (.sl (List.map eI a_.count))])) (ha1 : h.at_ l1 = some (.cells [.val (.sl (List.map eB w.G.Final)), .val (.sl (List.map (eL eEdge) w.G.Edges)), .val (.int .i64 w.Cells)])) (hn0_1 : l0 ≠ l1) {a : Bool} (e : scansionlaw18_alike a_ w b = some a) :
    Runs CT 43 [.cv (.val (.ptr (some (l0, 0)))), .cv (.val (.ptr (some (l1, 0)))), .cv (.val (.sl (List.map eU b)))] h fun o h' => o = [.cv (.val (.bool a))] ∧ h' = h := by
  refine Runs.start Try.f43 _ Try.func43 rfl (by rw [Try.ntmps43]; simp) (by rfl) (by rfl) (fun hwf hu => ?_)
  have hl0 := (hwf _ _ ha0).1
  have kl0 := locF hl0
  have hl1 := (hwf _ _ ha1).1
  have kl1 := locF hl1
  obtain ⟨D, hD, hr⟩ : ∃ D : Bool → Prop, (∀ z, D z → z = a) ∧ Holds (scansionlaw18_alike a_ w b) D := ⟨fun z => z = a, fun _ h => h, Holds.intro e rfl⟩
  dsimp only [scansionlaw18_alike] at hr
  change wpCode _ _ _ _ _ ⟨[(0, .cv (.val (.ptr (some (l0, 0))))), (1, .cv (.val (.ptr (some (l1, 0))))), (2, .cv (.val (.sl (List.map eU b))))], h.on []⟩
  refine w_seq ?_
  refine A_region ?_
  refine w_n ?_
  refine w_seq ?_
  refine A_ops ?_
  refine A_upto 2 ?_
  obtain ⟨r, eF1, hr⟩ := hr.bind
  refine A_call (out := ?o_eF1) (hp := ?p_eF1) ?c_eF1 ?d_eF1 ?_
  case c_eF1 => (refine darray_Array_Prefixes_runs a_ b (l0) ?_ eF1; (simp (disch := (apply Apart.mk; decide)) only [go_sem, Nat.reduceAdd, Nat.reduceLT, Nat.reduceMul, Nat.reduceLeDiff, Int.reduceToNat, Int.reduceLT, Int.reduceLE, ha0, on_atB hl0, lt_add hl0, lt_at hl0, ha1, on_atB hl1, lt_add hl1, lt_at hl1]))
  case d_eF1 => rfl
  refine A_upto 2 ?_
  obtain ⟨r1, eF2, hr⟩ := hr.bind
  refine A_call (out := ?o_eF2) (hp := ?p_eF2) ?c_eF2 ?d_eF2 ?_
  case c_eF2 => (refine scansionref18_Array_Prefixes_runs w b (l1) ?_ eF2; (simp (disch := (apply Apart.mk; decide)) only [go_sem, Nat.reduceAdd, Nat.reduceLT, Nat.reduceMul, Nat.reduceLeDiff, Int.reduceToNat, Int.reduceLT, Int.reduceLE, ha0, on_atB hl0, lt_add hl0, lt_at hl0, ha1, on_atB hl1, lt_add hl1, lt_at hl1]))
  case d_eF2 => rfl
  obtain ⟨r2, eF3, hr⟩ := hr.bind
  refine A_call (out := ?o_eF3) (hp := ?p_eF3) ?c_eF3 ?d_eF3 ?_
  case c_eF3 => exact scansionref01_SameInts_runs r r1 eF3
  case d_eF3 => rfl
  refine A_ops_end ?_
  refine w_n ?_
  obtain ⟨rest_, vF11, hr⟩ := hr.bind
  refine w_joinR (sj := ⟨[(0, .cv (.val (.ptr (some (l0, 0))))), (1, .cv (.val (.ptr (some (l1, 0))))), (2, .cv (.val (.sl (List.map eU b)))), (7, .cv (.val (.bool r2))), (8, .cv (.val (.bool rest_)))], h.on []⟩) (w_drawn [0, 2, 1, 3, 4, 5, 6, 8, 9, 10, 11, 7, 12, 13, 14, 15, 18, 16, 17, 19, 20, 21, 22, 23] (by rfl) ?_) ?_
  · have hr := Holds.intro (D := fun z => z = rest_) vF11 rfl
    refine p_run (l := [0, 2]) (pend' := [2, 0]) (by simp (disch := (apply Apart.mk; decide)) only [go_sem, Nat.reduceAdd, Nat.reduceLT, Nat.reduceMul, Nat.reduceLeDiff, Int.reduceToNat, Int.reduceLT, Int.reduceLE, ha0, on_atB hl0, lt_add hl0, lt_at hl0, ha1, on_atB hl1, lt_add hl1, lt_at hl1]; rfl) rfl ?_
    obtain ⟨r3, eF4, hr⟩ := hr.bind
    refine p_call (out := ?o_eF4) (hp := ?p_eF4) (pend' := [2]) rfl (by simp (disch := (apply Apart.mk; decide)) only [go_sem, Nat.reduceAdd, Nat.reduceLT, Nat.reduceMul, Nat.reduceLeDiff, Int.reduceToNat, Int.reduceLT, Int.reduceLE, ha0, on_atB hl0, lt_add hl0, lt_at hl0, ha1, on_atB hl1, lt_add hl1, lt_at hl1, Option.getD_some]) rfl (by simp (disch := (apply Apart.mk; decide)) only [go_sem, Nat.reduceAdd, Nat.reduceLT, Nat.reduceMul, Nat.reduceLeDiff, Int.reduceToNat, Int.reduceLT, Int.reduceLE, ha0, on_atB hl0, lt_add hl0, lt_at hl0, ha1, on_atB hl1, lt_add hl1, lt_at hl1, Option.getD_some]; rfl) (by simp (disch := (apply Apart.mk; decide)) only [go_sem, Nat.reduceAdd, Nat.reduceLT, Nat.reduceMul, Nat.reduceLeDiff, Int.reduceToNat, Int.reduceLT, Int.reduceLE, ha0, on_atB hl0, lt_add hl0, lt_at hl0, ha1, on_atB hl1, lt_add hl1, lt_at hl1, Option.getD_some]; rfl) (by simp (disch := (apply Apart.mk; decide)) only [go_sem, Nat.reduceAdd, Nat.reduceLT, Nat.reduceMul, Nat.reduceLeDiff, Int.reduceToNat, Int.reduceLT, Int.reduceLE, ha0, on_atB hl0, lt_add hl0, lt_at hl0, ha1, on_atB hl1, lt_add hl1, lt_at hl1, Option.getD_some]; rfl) (by rfl) ?c_eF4 ?d_eF4 ?_
    case c_eF4 => (refine darray_Array_Words_runs a_ (l0) ?_ eF4; (simp (disch := (apply Apart.mk; decide)) only [go_sem, Nat.reduceAdd, Nat.reduceLT, Nat.reduceMul, Nat.reduceLeDiff, Int.reduceToNat, Int.reduceLT, Int.reduceLE, ha0, on_atB hl0, lt_add hl0, lt_at hl0, ha1, on_atB hl1, lt_add hl1, lt_at hl1]))
    case d_eF4 => rfl
    obtain ⟨r4, eF5, hr⟩ := hr.bind
    refine p_call (out := ?o_eF5) (hp := ?p_eF5) (pend' := []) rfl (by simp (disch := (apply Apart.mk; decide)) only [go_sem, Nat.reduceAdd, Nat.reduceLT, Nat.reduceMul, Nat.reduceLeDiff, Int.reduceToNat, Int.reduceLT, Int.reduceLE, ha0, on_atB hl0, lt_add hl0, lt_at hl0, ha1, on_atB hl1, lt_add hl1, lt_at hl1, Option.getD_some]) rfl (by simp (disch := (apply Apart.mk; decide)) only [go_sem, Nat.reduceAdd, Nat.reduceLT, Nat.reduceMul, Nat.reduceLeDiff, Int.reduceToNat, Int.reduceLT, Int.reduceLE, ha0, on_atB hl0, lt_add hl0, lt_at hl0, ha1, on_atB hl1, lt_add hl1, lt_at hl1, Option.getD_some]; rfl) (by simp (disch := (apply Apart.mk; decide)) only [go_sem, Nat.reduceAdd, Nat.reduceLT, Nat.reduceMul, Nat.reduceLeDiff, Int.reduceToNat, Int.reduceLT, Int.reduceLE, ha0, on_atB hl0, lt_add hl0, lt_at hl0, ha1, on_atB hl1, lt_add hl1, lt_at hl1, Option.getD_some]; rfl) (by simp (disch := (apply Apart.mk; decide)) only [go_sem, Nat.reduceAdd, Nat.reduceLT, Nat.reduceMul, Nat.reduceLeDiff, Int.reduceToNat, Int.reduceLT, Int.reduceLE, ha0, on_atB hl0, lt_add hl0, lt_at hl0, ha1, on_atB hl1, lt_add hl1, lt_at hl1, Option.getD_some]; rfl) (by rfl) ?c_eF5 ?d_eF5 ?_
    case c_eF5 => (refine scansionref18_Array_Words_runs w (l1) ?_ eF5; (simp (disch := (apply Apart.mk; decide)) only [go_sem, Nat.reduceAdd, Nat.reduceLT, Nat.reduceMul, Nat.reduceLeDiff, Int.reduceToNat, Int.reduceLT, Int.reduceLE, ha0, on_atB hl0, lt_add hl0, lt_at hl0, ha1, on_atB hl1, lt_add hl1, lt_at hl1]))
    case d_eF5 => rfl
    refine p_run (l := [4, 5]) (pend' := [5, 4]) (by simp (disch := (apply Apart.mk; decide)) only [go_sem, Nat.reduceAdd, Nat.reduceLT, Nat.reduceMul, Nat.reduceLeDiff, Int.reduceToNat, Int.reduceLT, Int.reduceLE, ha0, on_atB hl0, lt_add hl0, lt_at hl0, ha1, on_atB hl1, lt_add hl1, lt_at hl1]; rfl) rfl ?_
    rcases hr.ite with ⟨cF6, hr⟩ | ⟨cF6, hr⟩
    · refine p_run (l := [6, 8, 9, 10, 11]) (pend' := [11, 10, 9, 8, 6, 5, 4]) (by simp (disch := (apply Apart.mk; decide)) only [go_sem, Nat.reduceAdd, Nat.reduceLT, Nat.reduceMul, Nat.reduceLeDiff, Int.reduceToNat, Int.reduceLT, Int.reduceLE, ha0, on_atB hl0, lt_add hl0, lt_at hl0, ha1, on_atB hl1, lt_add hl1, lt_at hl1, cF6]; rfl) rfl ?_
      obtain ⟨r5, eF7, hr⟩ := hr.bind
      refine p_call (out := ?o_eF7) (hp := ?p_eF7) (pend' := [11, 10, 9, 8]) rfl (by simp (disch := (apply Apart.mk; decide)) only [go_sem, Nat.reduceAdd, Nat.reduceLT, Nat.reduceMul, Nat.reduceLeDiff, Int.reduceToNat, Int.reduceLT, Int.reduceLE, ha0, on_atB hl0, lt_add hl0, lt_at hl0, ha1, on_atB hl1, lt_add hl1, lt_at hl1, Option.getD_some, cF6]) (by simp (disch := (apply Apart.mk; decide)) only [go_sem, Nat.reduceAdd, Nat.reduceLT, Nat.reduceMul, Nat.reduceLeDiff, Int.reduceToNat, Int.reduceLT, Int.reduceLE, ha0, on_atB hl0, lt_add hl0, lt_at hl0, ha1, on_atB hl1, lt_add hl1, lt_at hl1, Option.getD_some, cF6]) (by simp (disch := (apply Apart.mk; decide)) only [go_sem, Nat.reduceAdd, Nat.reduceLT, Nat.reduceMul, Nat.reduceLeDiff, Int.reduceToNat, Int.reduceLT, Int.reduceLE, ha0, on_atB hl0, lt_add hl0, lt_at hl0, ha1, on_atB hl1, lt_add hl1, lt_at hl1, Option.getD_some, cF6]; rfl) (by simp (disch := (apply Apart.mk; decide)) only [go_sem, Nat.reduceAdd, Nat.reduceLT, Nat.reduceMul, Nat.reduceLeDiff, Int.reduceToNat, Int.reduceLT, Int.reduceLE, ha0, on_atB hl0, lt_add hl0, lt_at hl0, ha1, on_atB hl1, lt_add hl1, lt_at hl1, Option.getD_some, cF6]; rfl) (by simp (disch := (apply Apart.mk; decide)) only [go_sem, Nat.reduceAdd, Nat.reduceLT, Nat.reduceMul, Nat.reduceLeDiff, Int.reduceToNat, Int.reduceLT, Int.reduceLE, ha0, on_atB hl0, lt_add hl0, lt_at hl0, ha1, on_atB hl1, lt_add hl1, lt_at hl1, Option.getD_some, cF6]; rfl) (by rfl) ?c_eF7 ?d_eF7 ?_
      case c_eF7 => (refine darray_Array_Cells_runs a_ (l0) ?_ eF7; (simp (disch := (apply Apart.mk; decide)) only [go_sem, Nat.reduceAdd, Nat.reduceLT, Nat.reduceMul, Nat.reduceLeDiff, Int.reduceToNat, Int.reduceLT, Int.reduceLE, ha0, on_atB hl0, lt_add hl0, lt_at hl0, ha1, on_atB hl1, lt_add hl1, lt_at hl1]))
      case d_eF7 => rfl
      refine p_run (l := [12, 13, 14]) (pend' := [14, 13, 12, 11, 10, 9, 8]) (by simp (disch := (apply Apart.mk; decide)) only [go_sem, Nat.reduceAdd, Nat.reduceLT, Nat.reduceMul, Nat.reduceLeDiff, Int.reduceToNat, Int.reduceLT, Int.reduceLE, ha0, on_atB hl0, lt_add hl0, lt_at hl0, ha1, on_atB hl1, lt_add hl1, lt_at hl1, cF6]; rfl) rfl ?_
      rcases hr.ite with ⟨cF8, hr⟩ | ⟨cF8, hr⟩
      · refine p_run (l := [15, 18]) (pend' := [18, 15, 14, 13, 12, 11, 10, 9, 8]) (by simp (disch := (apply Apart.mk; decide)) only [go_sem, Nat.reduceAdd, Nat.reduceLT, Nat.reduceMul, Nat.reduceLeDiff, Int.reduceToNat, Int.reduceLT, Int.reduceLE, ha0, on_atB hl0, lt_add hl0, lt_at hl0, ha1, on_atB hl1, lt_add hl1, lt_at hl1, cF6, cF8]; rfl) rfl ?_
        obtain ⟨r6, eF9, hr⟩ := hr.bind
        refine p_call (out := ?o_eF9) (hp := ?p_eF9) (pend' := [18]) rfl (by simp (disch := (apply Apart.mk; decide)) only [go_sem, Nat.reduceAdd, Nat.reduceLT, Nat.reduceMul, Nat.reduceLeDiff, Int.reduceToNat, Int.reduceLT, Int.reduceLE, ha0, on_atB hl0, lt_add hl0, lt_at hl0, ha1, on_atB hl1, lt_add hl1, lt_at hl1, Option.getD_some, cF6, cF8]) (by simp (disch := (apply Apart.mk; decide)) only [go_sem, Nat.reduceAdd, Nat.reduceLT, Nat.reduceMul, Nat.reduceLeDiff, Int.reduceToNat, Int.reduceLT, Int.reduceLE, ha0, on_atB hl0, lt_add hl0, lt_at hl0, ha1, on_atB hl1, lt_add hl1, lt_at hl1, Option.getD_some, cF6, cF8]) (by simp (disch := (apply Apart.mk; decide)) only [go_sem, Nat.reduceAdd, Nat.reduceLT, Nat.reduceMul, Nat.reduceLeDiff, Int.reduceToNat, Int.reduceLT, Int.reduceLE, ha0, on_atB hl0, lt_add hl0, lt_at hl0, ha1, on_atB hl1, lt_add hl1, lt_at hl1, Option.getD_some, cF6, cF8]; rfl) (by simp (disch := (apply Apart.mk; decide)) only [go_sem, Nat.reduceAdd, Nat.reduceLT, Nat.reduceMul, Nat.reduceLeDiff, Int.reduceToNat, Int.reduceLT, Int.reduceLE, ha0, on_atB hl0, lt_add hl0, lt_at hl0, ha1, on_atB hl1, lt_add hl1, lt_at hl1, Option.getD_some, cF6, cF8]; rfl) (by simp (disch := (apply Apart.mk; decide)) only [go_sem, Nat.reduceAdd, Nat.reduceLT, Nat.reduceMul, Nat.reduceLeDiff, Int.reduceToNat, Int.reduceLT, Int.reduceLE, ha0, on_atB hl0, lt_add hl0, lt_at hl0, ha1, on_atB hl1, lt_add hl1, lt_at hl1, Option.getD_some, cF6, cF8]; rfl) (by rfl) ?c_eF9 ?d_eF9 ?_
        case c_eF9 => (refine darray_Array_Save_runs a_ (l0) ?_ eF9; (simp (disch := (apply Apart.mk; decide)) only [go_sem, Nat.reduceAdd, Nat.reduceLT, Nat.reduceMul, Nat.reduceLeDiff, Int.reduceToNat, Int.reduceLT, Int.reduceLE, ha0, on_atB hl0, lt_add hl0, lt_at hl0, ha1, on_atB hl1, lt_add hl1, lt_at hl1]))
        case d_eF9 => rfl
        refine p_run (l := [17]) (pend' := [17, 18]) (by simp (disch := (apply Apart.mk; decide)) only [go_sem, Nat.reduceAdd, Nat.reduceLT, Nat.reduceMul, Nat.reduceLeDiff, Int.reduceToNat, Int.reduceLT, Int.reduceLE, ha0, on_atB hl0, lt_add hl0, lt_at hl0, ha1, on_atB hl1, lt_add hl1, lt_at hl1, cF6, cF8]; rfl) rfl ?_
        obtain ⟨r7, eF10, hr⟩ := hr.bind
        refine p_call (out := ?o_eF10) (hp := ?p_eF10) (pend' := [17]) rfl (by simp (disch := (apply Apart.mk; decide)) only [go_sem, Nat.reduceAdd, Nat.reduceLT, Nat.reduceMul, Nat.reduceLeDiff, Int.reduceToNat, Int.reduceLT, Int.reduceLE, ha0, on_atB hl0, lt_add hl0, lt_at hl0, ha1, on_atB hl1, lt_add hl1, lt_at hl1, Option.getD_some, cF6, cF8]) (by simp (disch := (apply Apart.mk; decide)) only [go_sem, Nat.reduceAdd, Nat.reduceLT, Nat.reduceMul, Nat.reduceLeDiff, Int.reduceToNat, Int.reduceLT, Int.reduceLE, ha0, on_atB hl0, lt_add hl0, lt_at hl0, ha1, on_atB hl1, lt_add hl1, lt_at hl1, Option.getD_some, cF6, cF8]) (by simp (disch := (apply Apart.mk; decide)) only [go_sem, Nat.reduceAdd, Nat.reduceLT, Nat.reduceMul, Nat.reduceLeDiff, Int.reduceToNat, Int.reduceLT, Int.reduceLE, ha0, on_atB hl0, lt_add hl0, lt_at hl0, ha1, on_atB hl1, lt_add hl1, lt_at hl1, Option.getD_some, cF6, cF8]; rfl) (by simp (disch := (apply Apart.mk; decide)) only [go_sem, Nat.reduceAdd, Nat.reduceLT, Nat.reduceMul, Nat.reduceLeDiff, Int.reduceToNat, Int.reduceLT, Int.reduceLE, ha0, on_atB hl0, lt_add hl0, lt_at hl0, ha1, on_atB hl1, lt_add hl1, lt_at hl1, Option.getD_some, cF6, cF8]; rfl) (by simp (disch := (apply Apart.mk; decide)) only [go_sem, Nat.reduceAdd, Nat.reduceLT, Nat.reduceMul, Nat.reduceLeDiff, Int.reduceToNat, Int.reduceLT, Int.reduceLE, ha0, on_atB hl0, lt_add hl0, lt_at hl0, ha1, on_atB hl1, lt_add hl1, lt_at hl1, Option.getD_some, cF6, cF8]; rfl) (by rfl) ?c_eF10 ?d_eF10 ?_
        case c_eF10 => (refine scansionref18_Array_Save_runs w (l1) ?_ eF10; (simp (disch := (apply Apart.mk; decide)) only [go_sem, Nat.reduceAdd, Nat.reduceLT, Nat.reduceMul, Nat.reduceLeDiff, Int.reduceToNat, Int.reduceLT, Int.reduceLE, ha0, on_atB hl0, lt_add hl0, lt_at hl0, ha1, on_atB hl1, lt_add hl1, lt_at hl1]))
        case d_eF10 => rfl
        refine p_run (l := [20, 21, 22]) (pend' := [22, 21, 20, 17]) (by simp (disch := (apply Apart.mk; decide)) only [go_sem, Nat.reduceAdd, Nat.reduceLT, Nat.reduceMul, Nat.reduceLeDiff, Int.reduceToNat, Int.reduceLT, Int.reduceLE, ha0, on_atB hl0, lt_add hl0, lt_at hl0, ha1, on_atB hl1, lt_add hl1, lt_at hl1, cF6, cF8]; rfl) rfl ?_
        refine p_op (pend' := []) rfl (by simp (disch := (apply Apart.mk; decide)) only [go_sem, Nat.reduceAdd, Nat.reduceLT, Nat.reduceMul, Nat.reduceLeDiff, Int.reduceToNat, Int.reduceLT, Int.reduceLE, ha0, on_atB hl0, lt_add hl0, lt_at hl0, ha1, on_atB hl1, lt_add hl1, lt_at hl1, cF6, cF8]) (by simp (disch := (apply Apart.mk; decide)) only [go_sem, Nat.reduceAdd, Nat.reduceLT, Nat.reduceMul, Nat.reduceLeDiff, Int.reduceToNat, Int.reduceLT, Int.reduceLE, ha0, on_atB hl0, lt_add hl0, lt_at hl0, ha1, on_atB hl1, lt_add hl1, lt_at hl1, cF6, cF8]; rfl) (by rfl) ?_
        refine p_end (by simp (disch := (apply Apart.mk; decide)) only [go_sem, Nat.reduceAdd, Nat.reduceLT, Nat.reduceMul, Nat.reduceLeDiff, Int.reduceToNat, Int.reduceLT, Int.reduceLE, ha0, on_atB hl0, lt_add hl0, lt_at hl0, ha1, on_atB hl1, lt_add hl1, lt_at hl1, cF6, cF8]) ?_
        obtain rfl : _ = rest_ := hr
        exact w_k (A_cut hwf)
      · refine p_run (l := [15, 18]) (pend' := [18, 15, 14, 13, 12, 11, 10, 9, 8]) (by simp (disch := (apply Apart.mk; decide)) only [go_sem, Nat.reduceAdd, Nat.reduceLT, Nat.reduceMul, Nat.reduceLeDiff, Int.reduceToNat, Int.reduceLT, Int.reduceLE, ha0, on_atB hl0, lt_add hl0, lt_at hl0, ha1, on_atB hl1, lt_add hl1, lt_at hl1, cF6, cF8]; rfl) rfl ?_
        refine p_op (pend' := [18]) rfl (by simp (disch := (apply Apart.mk; decide)) only [go_sem, Nat.reduceAdd, Nat.reduceLT, Nat.reduceMul, Nat.reduceLeDiff, Int.reduceToNat, Int.reduceLT, Int.reduceLE, ha0, on_atB hl0, lt_add hl0, lt_at hl0, ha1, on_atB hl1, lt_add hl1, lt_at hl1, cF6, cF8]) (by simp (disch := (apply Apart.mk; decide)) only [go_sem, Nat.reduceAdd, Nat.reduceLT, Nat.reduceMul, Nat.reduceLeDiff, Int.reduceToNat, Int.reduceLT, Int.reduceLE, ha0, on_atB hl0, lt_add hl0, lt_at hl0, ha1, on_atB hl1, lt_add hl1, lt_at hl1, cF6, cF8]; rfl) (by rfl) ?_
        refine p_run (l := [17]) (pend' := [17, 18]) (by simp (disch := (apply Apart.mk; decide)) only [go_sem, Nat.reduceAdd, Nat.reduceLT, Nat.reduceMul, Nat.reduceLeDiff, Int.reduceToNat, Int.reduceLT, Int.reduceLE, ha0, on_atB hl0, lt_add hl0, lt_at hl0, ha1, on_atB hl1, lt_add hl1, lt_at hl1, cF6, cF8]; rfl) rfl ?_
        refine p_op (pend' := [17]) rfl (by simp (disch := (apply Apart.mk; decide)) only [go_sem, Nat.reduceAdd, Nat.reduceLT, Nat.reduceMul, Nat.reduceLeDiff, Int.reduceToNat, Int.reduceLT, Int.reduceLE, ha0, on_atB hl0, lt_add hl0, lt_at hl0, ha1, on_atB hl1, lt_add hl1, lt_at hl1, cF6, cF8]) (by simp (disch := (apply Apart.mk; decide)) only [go_sem, Nat.reduceAdd, Nat.reduceLT, Nat.reduceMul, Nat.reduceLeDiff, Int.reduceToNat, Int.reduceLT, Int.reduceLE, ha0, on_atB hl0, lt_add hl0, lt_at hl0, ha1, on_atB hl1, lt_add hl1, lt_at hl1, cF6, cF8]; rfl) (by rfl) ?_
        refine p_run (l := [20, 21, 22]) (pend' := [22, 21, 20, 17]) (by simp (disch := (apply Apart.mk; decide)) only [go_sem, Nat.reduceAdd, Nat.reduceLT, Nat.reduceMul, Nat.reduceLeDiff, Int.reduceToNat, Int.reduceLT, Int.reduceLE, ha0, on_atB hl0, lt_add hl0, lt_at hl0, ha1, on_atB hl1, lt_add hl1, lt_at hl1, cF6, cF8]; rfl) rfl ?_
        refine p_op (pend' := []) rfl (by simp (disch := (apply Apart.mk; decide)) only [go_sem, Nat.reduceAdd, Nat.reduceLT, Nat.reduceMul, Nat.reduceLeDiff, Int.reduceToNat, Int.reduceLT, Int.reduceLE, ha0, on_atB hl0, lt_add hl0, lt_at hl0, ha1, on_atB hl1, lt_add hl1, lt_at hl1, cF6, cF8]) (by simp (disch := (apply Apart.mk; decide)) only [go_sem, Nat.reduceAdd, Nat.reduceLT, Nat.reduceMul, Nat.reduceLeDiff, Int.reduceToNat, Int.reduceLT, Int.reduceLE, ha0, on_atB hl0, lt_add hl0, lt_at hl0, ha1, on_atB hl1, lt_add hl1, lt_at hl1, cF6, cF8]; rfl) (by rfl) ?_
        refine p_end (by simp (disch := (apply Apart.mk; decide)) only [go_sem, Nat.reduceAdd, Nat.reduceLT, Nat.reduceMul, Nat.reduceLeDiff, Int.reduceToNat, Int.reduceLT, Int.reduceLE, ha0, on_atB hl0, lt_add hl0, lt_at hl0, ha1, on_atB hl1, lt_add hl1, lt_at hl1, cF6, cF8]) ?_
        obtain rfl : _ = rest_ := hr
        exact w_k (A_cut hwf)
    · refine p_run (l := [6, 8, 9, 10, 11]) (pend' := [11, 10, 9, 8, 6, 5, 4]) (by simp (disch := (apply Apart.mk; decide)) only [go_sem, Nat.reduceAdd, Nat.reduceLT, Nat.reduceMul, Nat.reduceLeDiff, Int.reduceToNat, Int.reduceLT, Int.reduceLE, ha0, on_atB hl0, lt_add hl0, lt_at hl0, ha1, on_atB hl1, lt_add hl1, lt_at hl1, cF6]; rfl) rfl ?_
      refine p_op (pend' := [11, 10, 9, 8]) rfl (by simp (disch := (apply Apart.mk; decide)) only [go_sem, Nat.reduceAdd, Nat.reduceLT, Nat.reduceMul, Nat.reduceLeDiff, Int.reduceToNat, Int.reduceLT, Int.reduceLE, ha0, on_atB hl0, lt_add hl0, lt_at hl0, ha1, on_atB hl1, lt_add hl1, lt_at hl1, cF6]) (by simp (disch := (apply Apart.mk; decide)) only [go_sem, Nat.reduceAdd, Nat.reduceLT, Nat.reduceMul, Nat.reduceLeDiff, Int.reduceToNat, Int.reduceLT, Int.reduceLE, ha0, on_atB hl0, lt_add hl0, lt_at hl0, ha1, on_atB hl1, lt_add hl1, lt_at hl1, cF6]; rfl) (by rfl) ?_
      refine p_run (l := [12, 13, 14, 15, 18]) (pend' := [18, 15, 14, 13, 12, 11, 10, 9, 8]) (by simp (disch := (apply Apart.mk; decide)) only [go_sem, Nat.reduceAdd, Nat.reduceLT, Nat.reduceMul, Nat.reduceLeDiff, Int.reduceToNat, Int.reduceLT, Int.reduceLE, ha0, on_atB hl0, lt_add hl0, lt_at hl0, ha1, on_atB hl1, lt_add hl1, lt_at hl1, cF6]; rfl) rfl ?_
      refine p_op (pend' := [18]) rfl (by simp (disch := (apply Apart.mk; decide)) only [go_sem, Nat.reduceAdd, Nat.reduceLT, Nat.reduceMul, Nat.reduceLeDiff, Int.reduceToNat, Int.reduceLT, Int.reduceLE, ha0, on_atB hl0, lt_add hl0, lt_at hl0, ha1, on_atB hl1, lt_add hl1, lt_at hl1, cF6]) (by simp (disch := (apply Apart.mk; decide)) only [go_sem, Nat.reduceAdd, Nat.reduceLT, Nat.reduceMul, Nat.reduceLeDiff, Int.reduceToNat, Int.reduceLT, Int.reduceLE, ha0, on_atB hl0, lt_add hl0, lt_at hl0, ha1, on_atB hl1, lt_add hl1, lt_at hl1, cF6]; rfl) (by rfl) ?_
      refine p_run (l := [17]) (pend' := [17, 18]) (by simp (disch := (apply Apart.mk; decide)) only [go_sem, Nat.reduceAdd, Nat.reduceLT, Nat.reduceMul, Nat.reduceLeDiff, Int.reduceToNat, Int.reduceLT, Int.reduceLE, ha0, on_atB hl0, lt_add hl0, lt_at hl0, ha1, on_atB hl1, lt_add hl1, lt_at hl1, cF6]; rfl) rfl ?_
      refine p_op (pend' := [17]) rfl (by simp (disch := (apply Apart.mk; decide)) only [go_sem, Nat.reduceAdd, Nat.reduceLT, Nat.reduceMul, Nat.reduceLeDiff, Int.reduceToNat, Int.reduceLT, Int.reduceLE, ha0, on_atB hl0, lt_add hl0, lt_at hl0, ha1, on_atB hl1, lt_add hl1, lt_at hl1, cF6]) (by simp (disch := (apply Apart.mk; decide)) only [go_sem, Nat.reduceAdd, Nat.reduceLT, Nat.reduceMul, Nat.reduceLeDiff, Int.reduceToNat, Int.reduceLT, Int.reduceLE, ha0, on_atB hl0, lt_add hl0, lt_at hl0, ha1, on_atB hl1, lt_add hl1, lt_at hl1, cF6]; rfl) (by rfl) ?_
      refine p_run (l := [20, 21, 22]) (pend' := [22, 21, 20, 17]) (by simp (disch := (apply Apart.mk; decide)) only [go_sem, Nat.reduceAdd, Nat.reduceLT, Nat.reduceMul, Nat.reduceLeDiff, Int.reduceToNat, Int.reduceLT, Int.reduceLE, ha0, on_atB hl0, lt_add hl0, lt_at hl0, ha1, on_atB hl1, lt_add hl1, lt_at hl1, cF6]; rfl) rfl ?_
      refine p_op (pend' := []) rfl (by simp (disch := (apply Apart.mk; decide)) only [go_sem, Nat.reduceAdd, Nat.reduceLT, Nat.reduceMul, Nat.reduceLeDiff, Int.reduceToNat, Int.reduceLT, Int.reduceLE, ha0, on_atB hl0, lt_add hl0, lt_at hl0, ha1, on_atB hl1, lt_add hl1, lt_at hl1, cF6]) (by simp (disch := (apply Apart.mk; decide)) only [go_sem, Nat.reduceAdd, Nat.reduceLT, Nat.reduceMul, Nat.reduceLeDiff, Int.reduceToNat, Int.reduceLT, Int.reduceLE, ha0, on_atB hl0, lt_add hl0, lt_at hl0, ha1, on_atB hl1, lt_add hl1, lt_at hl1, cF6]; rfl) (by rfl) ?_
      refine p_end (by simp (disch := (apply Apart.mk; decide)) only [go_sem, Nat.reduceAdd, Nat.reduceLT, Nat.reduceMul, Nat.reduceLeDiff, Int.reduceToNat, Int.reduceLT, Int.reduceLE, ha0, on_atB hl0, lt_add hl0, lt_at hl0, ha1, on_atB hl1, lt_add hl1, lt_at hl1, cF6]) ?_
      obtain rfl : _ = rest_ := hr
      exact w_k (A_cut hwf)
  refine w_seq ?_
  refine w_seq ?_
  refine A_ops ?_
  refine A_upto 1 ?_
  obtain ⟨r8, eF12, hr⟩ := hr.bind
  refine A_call (out := ?o_eF12) (hp := ?p_eF12) ?c_eF12 ?d_eF12 ?_
  case c_eF12 => (refine scansionref18_Array_Words_runs w (l1) ?_ eF12; (simp (disch := (apply Apart.mk; decide)) only [go_sem, Nat.reduceAdd, Nat.reduceLT, Nat.reduceMul, Nat.reduceLeDiff, Int.reduceToNat, Int.reduceLT, Int.reduceLE, ha0, on_atB hl0, lt_add hl0, lt_at hl0, ha1, on_atB hl1, lt_add hl1, lt_at hl1]))
  case d_eF12 => rfl
  refine A_ops_end ?_
  refine w_n ?_
  refine A_condH hr (fun cF13 hr => ?_) (fun cF13 hr => ?_)
  · refine w_joinR (sj := ⟨[(6, .cv (.val (.bool (r2 && rest_))))], h.on []⟩) (A_ops ?_) ?_
    · refine A_upto 2 ?_
      rcases Bool.eq_false_or_eq_true r2 with cF14 | cF14
      · refine A_ops_end ?_
        exact w_k (A_cut hwf)
      · refine A_ops_end ?_
        exact w_k (A_cut hwf)
    refine w_ret ?_
    obtain rfl := hD _ hr
    exact (w_tr (A_endR (A_cut (os' := []) (sl := [(6, .cv (.val (.bool (r2 && rest_))))]) hwf) ⟨rfl, on_nil hwf⟩))
  · refine w_skip ?_
    refine w_n ?_
    refine w_seq ?_
    refine A_ops ?_
    refine A_upto 2 ?_
    obtain ⟨r9, eF15, hr⟩ := hr.bind
    refine A_call (out := ?o_eF15) (hp := ?p_eF15) ?c_eF15 ?d_eF15 ?_
    case c_eF15 => (refine darray_Array_Number_runs a_ b (l0) ?_ eF15; (simp (disch := (apply Apart.mk; decide)) only [go_sem, Nat.reduceAdd, Nat.reduceLT, Nat.reduceMul, Nat.reduceLeDiff, Int.reduceToNat, Int.reduceLT, Int.reduceLE, ha0, on_atB hl0, lt_add hl0, lt_at hl0, ha1, on_atB hl1, lt_add hl1, lt_at hl1]))
    case d_eF15 => rfl
    refine A_ops_end ?_
    refine w_n ?_
    refine w_seq ?_
    refine A_ops ?_
    refine A_upto 2 ?_
    obtain ⟨r10, eF16, hr⟩ := hr.bind
    refine A_call (out := ?o_eF16) (hp := ?p_eF16) ?c_eF16 ?d_eF16 ?_
    case c_eF16 => (refine scansionref18_Array_Number_runs w b (l1) ?_ eF16; (simp (disch := (apply Apart.mk; decide)) only [go_sem, Nat.reduceAdd, Nat.reduceLT, Nat.reduceMul, Nat.reduceLeDiff, Int.reduceToNat, Int.reduceLT, Int.reduceLE, ha0, on_atB hl0, lt_add hl0, lt_at hl0, ha1, on_atB hl1, lt_add hl1, lt_at hl1]))
    case d_eF16 => rfl
    refine A_ops_end ?_
    refine w_n ?_
    refine w_seq ?_
    refine A_ops ?_
    refine A_upto 4 ?_
    obtain ⟨r11, eF17, hr⟩ := hr.bind
    refine A_call (out := ?o_eF17) (hp := ?p_eF17) ?c_eF17 ?d_eF17 ?_
    case c_eF17 => (refine darray_Array_Word_runs a_ (IntKind.i64.wrap ((b.length : Int) - (1 : Int))) (l0) ?_ eF17; (simp (disch := (apply Apart.mk; decide)) only [go_sem, Nat.reduceAdd, Nat.reduceLT, Nat.reduceMul, Nat.reduceLeDiff, Int.reduceToNat, Int.reduceLT, Int.reduceLE, ha0, on_atB hl0, lt_add hl0, lt_at hl0, ha1, on_atB hl1, lt_add hl1, lt_at hl1]))
    case d_eF17 => rfl
    refine A_ops_end ?_
    refine w_n ?_
    refine w_seq ?_
    refine A_ops ?_
    refine A_upto 4 ?_
    obtain ⟨r12, eF18, hr⟩ := hr.bind
    refine A_call (out := ?o_eF18) (hp := ?p_eF18) ?c_eF18 ?d_eF18 ?_
    case c_eF18 => (refine scansionref18_Array_Word_runs w (IntKind.i64.wrap ((b.length : Int) - (1 : Int))) (l1) ?_ eF18; (simp (disch := (apply Apart.mk; decide)) only [go_sem, Nat.reduceAdd, Nat.reduceLT, Nat.reduceMul, Nat.reduceLeDiff, Int.reduceToNat, Int.reduceLT, Int.reduceLE, ha0, on_atB hl0, lt_add hl0, lt_at hl0, ha1, on_atB hl1, lt_add hl1, lt_at hl1]))
    case d_eF18 => rfl
    refine A_ops_end ?_
    refine w_n ?_
    refine w_seq ?_
    refine w_joinR (sj := ⟨[(7, .cv (.val (.bool r2))), (8, .cv (.val (.bool rest_))), (9, .cv (.val (.int .i64 r9.1))), (10, .cv (.val (.bool r9.2))), (11, .cv (.val (.int .i64 r10.1))), (12, .cv (.val (.bool r10.2))), (89, .cv (.val (.bool ((!(r11.1 == r12.1)) || (!(r11.2 == r12.2))))))], h.on []⟩) (A_ops ?_) ?_
    · refine A_upto 4 ?_
      rcases Bool.eq_false_or_eq_true (!(r11.1 == r12.1)) with cF19 | cF19
      · refine A_ops_end ?_
        exact w_k (A_cut hwf)
      · refine A_ops_end ?_
        exact w_k (A_cut hwf)
    refine A_condH hr (fun cF20 hr => ?_) (fun cF20 hr => ?_)
    · refine w_seq ?_
      refine A_region ?_
      refine w_n ?_
      refine w_ret ?_
      obtain rfl := hD _ hr
      exact (w_tr (A_endR (A_cut (os' := []) (sl := [(6, .cv (.val (.bool false)))]) hwf) ⟨rfl, on_nil hwf⟩))
    · refine w_skip ?_
      refine w_n ?_
      refine w_joinR (sj := ⟨[(6, .cv (.val (.bool (r2 && (rest_ && ((r9.1 == r10.1) && (r9.2 == r10.2)))))))], h.on []⟩) (A_ops ?_) ?_
      · refine A_upto 2 ?_
        rcases Bool.eq_false_or_eq_true r2 with cF21 | cF21
        · refine A_upto 3 ?_
          rcases Bool.eq_false_or_eq_true rest_ with cF22 | cF22
          · refine A_upto 5 ?_
            rcases Bool.eq_false_or_eq_true (r9.1 == r10.1) with cF23 | cF23
            · refine A_ops_end ?_
              exact w_k (A_cut hwf)
            · refine A_ops_end ?_
              exact w_k (A_cut hwf)
          · refine A_ops_end ?_
            exact w_k (A_cut hwf)
        · refine A_ops_end ?_
          exact w_k (A_cut hwf)
      refine w_ret ?_
      obtain rfl := hD _ hr
      exact (A_endR (A_cut (os' := []) (sl := [(6, .cv (.val (.bool (r2 && (rest_ && ((r9.1 == r10.1) && (r9.2 == r10.2)))))))]) hwf) ⟨rfl, on_nil hwf⟩)
end Go.Val

/- part GW79 -/
/- slices.ContainsFunc[[]scansion/api.Edge,scansion/api.Edge] runs as it is read off. -/
namespace Go.Val
set_option linter.unusedVariables false
set_option linter.unusedSimpArgs false
set_option maxRecDepth 20000
open Go.Proofs
theorem slices_ContainsFunc_api_Edge_api_Edge_runs (s : List TEdge) (f : TEdge → Option Bool) (fid_f : FuncId) (caps_f : List DVal) {h : Heap} (h_f : ∀ os x0 r, f x0 = some r → Runs CT fid_f ([.cv (.val (.agg [.int .u8 (x0.Label.toNat : Int), .int .i64 x0.To]))] ++ sval caps_f) (h.on os) fun o h' => o = [.cv (.val (.bool r))] ∧ h' = h.on os) {a : Bool} (e : slices_ContainsFunc_api_Edge_api_Edge s f = some a) :
    Runs CT 79 [.cv (.val (.sl (List.map eEdge s))), .cv (.val (.fn fid_f [] caps_f))] h fun o h' => o = [.cv (.val (.bool a))] ∧ h' = h := by
  refine Runs.start Try.f79 _ Try.func79 rfl (by rw [Try.ntmps79]; simp) (by rfl) (by rfl) (fun hwf hu => ?_)
  have u_f : underL h.n caps_f := (hu (.cv (.val (.fn fid_f [] caps_f))) (by simp)).2
  have vu_f := fun k => under_add (k := k) u_f
  obtain ⟨D, hD, hr⟩ : ∃ D : Bool → Prop, (∀ z, D z → z = a) ∧ Holds (slices_ContainsFunc_api_Edge_api_Edge s f) D := ⟨fun z => z = a, fun _ h => h, Holds.intro e rfl⟩
  dsimp only [slices_ContainsFunc_api_Edge_api_Edge] at hr
  change wpCode _ _ _ _ _ ⟨[(0, .cv (.val (.sl (List.map eEdge s)))), (1, .cv (.val (.fn fid_f [] caps_f)))], h.on []⟩
  refine w_seq ?_
  refine A_region ?_
  refine w_n ?_
  refine w_seq ?_
  refine A_ops ?_
  refine A_upto 2 ?_
  obtain ⟨r, eF1, hr⟩ := hr.bind
  refine A_call (out := ?o_eF1) (hp := ?p_eF1) ?c_eF1 ?d_eF1 ?_
  case c_eF1 => (refine slices_IndexFunc_api_Edge_api_Edge_runs s f _ _ ?_ eF1; (exact (fun os x0 r e => by rw [on_on]; exact h_f _ x0 r e)))
  case d_eF1 => rfl
  refine A_ops_end ?_
  refine w_n ?_
  refine w_ret ?_
  obtain rfl := hD _ hr
  exact (A_endR (A_cut (os' := []) (sl := [(4, .cv (.val (.bool (decide (r ≥ (0 : Int))))))]) hwf) ⟨rfl, on_nil hwf⟩)
end Go.Val

/- part GW78 -/
/- (*scansion/darray.Array).fits$1 runs as it is read off. -/
namespace Go.Val
set_option linter.unusedVariables false
set_option linter.unusedSimpArgs false
set_option maxRecDepth 20000
open Go.Proofs
theorem darray_Array_fits_1_runs (x : TEdge) (p1 : Int) (p2 : Tdarray_Array) (l1 : Nat) (l2 : Nat) (l2p0 : Nat) {h : Heap} (ha1 : h.at_ l1 = some (.cells [.val (.int .i64 p1)])) (ha2 : h.at_ l2 = some (.cells [.val (.ptr (some (l2p0, 0)))])) (ha2p0 : h.at_ l2p0 = some (.cells [.val (.sl (List.map eB p2.graph.Final)), .val (.sl (List.map (eL eEdge) p2.graph.Edges)), .row 3 (List.map eI p2.base), .row 91 (List.map edarray_cell p2.cells), .val (.sl (List.map eI p2.count))])) (hn1_2 : l1 ≠ l2) (hn1_2p0 : l1 ≠ l2p0) (hn2_2p0 : l2 ≠ l2p0) {a : Bool} (e : darray_Array_fits_1 x p1 p2 = some a) :
    Runs CT 78 [.cv (.val (.agg [.int .u8 (x.Label.toNat : Int), .int .i64 x.To])), .cv (.val (.ptr (some (l1, 0)))), .cv (.val (.ptr (some (l2, 0))))] h fun o h' => o = [.cv (.val (.bool a))] ∧ h' = h := by
  refine Runs.start Try.f78 _ Try.func78 rfl (by rw [Try.ntmps78]; simp) (by rfl) (by rfl) (fun hwf hu => ?_)
  have hl1 := (hwf _ _ ha1).1
  have kl1 := locF hl1
  have hl2 := (hwf _ _ ha2).1
  have kl2 := locF hl2
  have hl2p0 := (hwf _ _ ha2p0).1
  have kl2p0 := locF hl2p0
  obtain ⟨D, hD, hr⟩ : ∃ D : Bool → Prop, (∀ z, D z → z = a) ∧ Holds (darray_Array_fits_1 x p1 p2) D := ⟨fun z => z = a, fun _ h => h, Holds.intro e rfl⟩
  dsimp only [darray_Array_fits_1] at hr
  change wpCode _ _ _ _ _ ⟨[(0, .cv (.val (.agg [.int .u8 (x.Label.toNat : Int), .int .i64 x.To]))), (1, .cv (.val (.ptr (some (l1, 0))))), (2, .cv (.val (.ptr (some (l2, 0)))))], h.on []⟩
  refine w_seq ?_
  refine A_region ?_
  refine w_n ?_
  refine w_seq ?_
  refine A_region ?_
  refine w_n ?_
  obtain ⟨v, vF5, hr⟩ := hr.bind
  refine w_joinR (sj := ⟨[(4, .cv (.val (.bool v)))], h.on []⟩) (A_ops ?_) ?_
  · have hr := Holds.intro (D := fun z => z = v) vF5 rfl
    refine A_upto 8 ?_
    rcases hr.ite with ⟨cF1, hr⟩ | ⟨cF1, hr⟩
    · obtain ⟨x1, nF2, eF3, gF4, hr⟩ := hr.idx
      refine A_ops_end ?_
      obtain rfl : _ = v := hr
      exact w_k (A_cut hwf)
    · refine A_ops_end ?_
      obtain rfl : _ = v := hr
      exact w_k (A_cut hwf)
  refine w_ret ?_
  obtain rfl := hD _ hr
  exact (A_endR (A_cut (os' := []) (sl := [(4, .cv (.val (.bool v)))]) hwf) ⟨rfl, on_nil hwf⟩)
end Go.Val

/- part GW53 -/
/- (*scansion/darray.Array).fits runs as it is read off. -/
namespace Go.Val
set_option linter.unusedVariables false
set_option linter.unusedSimpArgs false
set_option maxRecDepth 20000
open Go.Proofs
theorem darray_Array_fits_runs (a_ : Tdarray_Array) (base : Int) (l : List TEdge) (l0 : Nat) {h : Heap} (ha0 : h.at_ l0 = some (.cells [.val (.sl (List.map eB a_.graph.Final)), .val (.sl (List.map (eL eEdge) a_.graph.Edges)), .row 3 (List.map eI a_.base), .row 91 (List.map edarray_cell a_.cells), .val (.sl (List.map eI a_.count))])) {a : Bool} (e : darray_Array_fits a_ base l = some a) :
    Runs CT 53 [.cv (.val (.ptr (some (l0, 0)))), .cv (.val (.int .i64 base)), .cv (.val (.sl (List.map eEdge l)))] h fun o h' => o = [.cv (.val (.bool a))] ∧ h' = h := by
  refine Runs.start Try.f53 _ Try.func53 rfl (by rw [Try.ntmps53]; simp) (by rfl) (by rfl) (fun hwf hu => ?_)
  have hl0 := (hwf _ _ ha0).1
  have kl0 := locF hl0
  obtain ⟨D, hD, hr⟩ : ∃ D : Bool → Prop, (∀ z, D z → z = a) ∧ Holds (darray_Array_fits a_ base l) D := ⟨fun z => z = a, fun _ h => h, Holds.intro e rfl⟩
  dsimp only [darray_Array_fits] at hr
  change wpCode _ _ _ _ _ ⟨[(0, .cv (.val (.ptr (some (l0, 0))))), (1, .cv (.val (.int .i64 base))), (2, .cv (.val (.sl (List.map eEdge l))))], h.on []⟩
  refine w_seq ?_
  refine A_region ?_
  refine w_n ?_
  refine w_seq ?_
  refine A_region ?_
  refine w_n ?_
  refine w_seq ?_
  refine A_ops ?_
  refine A_upto 2 ?_
  obtain ⟨r, eF1, hr⟩ := hr.bind
  refine A_call (out := ?o_eF1) (hp := ?p_eF1) ?c_eF1 ?d_eF1 ?_
  case c_eF1 => (refine slices_ContainsFunc_api_Edge_api_Edge_runs l (fun x0 => darray_Array_fits_1 x0 base a_) _ _ ?_ eF1; (exact (fun os x0 r e => darray_Array_fits_1_runs x0 base a_ (h.n + 1) (h.n + 0) (l0) (by simp (disch := (apply Apart.mk; decide)) only [go_sem, Nat.reduceAdd, Nat.reduceLT, Nat.reduceMul, Nat.reduceLeDiff, Int.reduceToNat, Int.reduceLT, Int.reduceLE, ha0, on_atB hl0, lt_add hl0, lt_at hl0]) (by simp (disch := (apply Apart.mk; decide)) only [go_sem, Nat.reduceAdd, Nat.reduceLT, Nat.reduceMul, Nat.reduceLeDiff, Int.reduceToNat, Int.reduceLT, Int.reduceLE, ha0, on_atB hl0, lt_add hl0, lt_at hl0]) (by simp (disch := (apply Apart.mk; decide)) only [go_sem, Nat.reduceAdd, Nat.reduceLT, Nat.reduceMul, Nat.reduceLeDiff, Int.reduceToNat, Int.reduceLT, Int.reduceLE, ha0, on_atB hl0, lt_add hl0, lt_at hl0]) (by first | omega | assumption | exact Ne.symm (by assumption)) (by first | omega | assumption | exact Ne.symm (by assumption)) (by first | omega | assumption | exact Ne.symm (by assumption)) e)))
  case d_eF1 => rfl
  refine A_ops_end ?_
  refine w_n ?_
  refine w_ret ?_
  obtain rfl := hD _ hr
  exact (A_endR (A_cut (os' := []) (sl := [(6, .cv (.val (.bool (!r))))]) hwf) ⟨rfl, on_nil hwf⟩)
end Go.Val

/- part GW23 -/
/- scansion/darray.Pack runs as it is read off. -/
namespace Go.Val
set_option linter.unusedVariables false
set_option linter.unusedSimpArgs false
set_option maxRecDepth 20000
open Go.Proofs
theorem darray_Pack_runs (g : TGraph) {h : Heap} {a : (Option Tdarray_Array × Int)} (e : darray_Pack g = some a) :
    Runs CT 23 [.cv (.val (.agg [.sl (List.map eB g.Final), .sl (List.map (eL eEdge) g.Edges)]))] h fun o h' => match a.1 with | none => o = [.cv (.val (.ptr none)), .cv (.val (.int .i64 a.2))] ∧ h' = h | some y => o = [.cv (.val (.ptr (some (h.n + 1, 0)))), .cv (.val (.int .i64 a.2))] ∧ h' = h.on [none, some (.cells [.val (.sl (List.map eB y.graph.Final)), .val (.sl (List.map (eL eEdge) y.graph.Edges)), .row 3 (List.map eI y.base), .row 91 (List.map edarray_cell y.cells), .val (.sl (List.map eI y.count))])] := by
  refine Runs.start Try.f23 _ Try.func23 rfl (by rw [Try.ntmps23]; simp) (by rfl) (by rfl) (fun hwf hu => ?_)
  obtain ⟨D, hD, hr⟩ : ∃ D : (Option Tdarray_Array × Int) → Prop, (∀ z, D z → z = a) ∧ Holds (darray_Pack g) D := ⟨fun z => z = a, fun _ h => h, Holds.intro e rfl⟩
  dsimp only [darray_Pack] at hr
  change wpCode _ _ _ _ _ ⟨[(0, .cv (.val (.agg [.sl (List.map eB g.Final), .sl (List.map (eL eEdge) g.Edges)])))], h.on []⟩
  refine w_seq ?_
  refine A_region ?_
  refine w_n ?_
  refine w_seq ?_
  refine A_ops ?_
  refine A_upto 1 ?_
  obtain ⟨r, eF1, hr⟩ := hr.bind
  refine A_call (out := ?o_eF1) (hp := ?p_eF1) ?c_eF1 ?d_eF1 ?_
  case c_eF1 => exact dawg_Count_runs g eF1
  case d_eF1 => rfl
  refine A_ops_end ?_
  refine w_n ?_
  refine w_seq ?_
  refine w_seq ?_
  refine A_region ?_
  refine w_n ?_
  refine A_condH hr (fun cF2 hr => ?_) (fun cF2 hr => ?_)
  · refine w_seq ?_
    refine A_region ?_
    refine w_n ?_
    refine w_ret ?_
    obtain rfl := hD _ hr
    exact (w_tr (A_endR (A_cut (os' := []) (sl := [(2, .cv (.val (.ptr none))), (3, .cv (.val (.int .i64 r.2)))]) hwf) ⟨rfl, on_nil hwf⟩))
  · refine w_skip ?_
    refine w_n ?_
    refine w_seq ?_
    refine A_region ?_
    refine w_n ?_
    refine w_seq ?_
    refine w_seq ?_
    refine A_region ?_
    refine w_n ?_
    refine w_K (D := D) (fun xX : Int => ⟨[(1, .cv (.val (.ptr (some (h.n + 0, 0))))), (4, .cv (.val (.sl (List.map eI r.1)))), (6, .cv (.val (.int .i64 xX)))], h.on [some (.cells [.val (.sl (List.map eB g.Final)), .val (.sl (List.map (eL eEdge) g.Edges))])]⟩) (fun xX : Int => darray_Pack.k1 g r xX) (fun xX s' hr ht => ?_) ?_
    · obtain ⟨edges, rfl⟩ : ∃ z, z = xX := ⟨xX, rfl⟩
      dsimp only [darray_Pack.k1] at hr ht
      refine (w_nT ht ?_)
      refine w_seq ?_
      refine w_joinR (sj := ⟨[(1, .cv (.val (.ptr (some (h.n + 0, 0))))), (4, .cv (.val (.sl (List.map eI r.1)))), (43, .cv (.val (.bool ((decide ((g.Final.length : Int) > (20000 : Int))) || (decide (edges > (20000 : Int)))))))], h.on [some (.cells [.val (.sl (List.map eB g.Final)), .val (.sl (List.map (eL eEdge) g.Edges))])]⟩) (A_ops ?_) ?_
      · refine A_upto 5 ?_
        rcases Bool.eq_false_or_eq_true (decide ((g.Final.length : Int) > (20000 : Int))) with cF3 | cF3
        · refine A_ops_end ?_
          exact w_k (A_cut hwf)
        · refine A_ops_end ?_
          exact w_k (A_cut hwf)
      refine A_condH hr (fun cF4 hr => ?_) (fun cF4 hr => ?_)
      · refine w_seq ?_
        refine A_region ?_
        refine w_n ?_
        refine w_ret ?_
        obtain rfl := hD _ hr
        exact (w_tr (A_endR (A_cut (os' := []) (sl := [(2, .cv (.val (.ptr none))), (3, .cv (.val (.int .i64 (3 : Int))))]) hwf) ⟨rfl, on_nil hwf⟩))
      · refine w_skip ?_
        refine w_n ?_
        refine w_seq ?_
        refine A_region ?_
        refine w_n ?_
        refine w_seq ?_
        refine w_seq ?_
        refine A_region ?_
        refine w_n ?_
        refine w_K (D := D) (fun xX : (List Int × List Tdarray_cell) => ⟨[(9, .cv (.val (.ptr (some (h.n + 1, 0)))))], h.on [none, some (.cells [.val (.sl (List.map eB g.Final)), .val (.sl (List.map (eL eEdge) g.Edges)), .row 3 (List.map eI xX.1), .row 91 (List.map edarray_cell xX.2), .val (.sl (List.map eI r.1))])]⟩) (fun xX : (List Int × List Tdarray_cell) => darray_Pack.k2 g r xX.1 xX.2) (fun xX s' hr ht => ?_) ?_
        · obtain ⟨base, cells⟩ := xX
          dsimp only [darray_Pack.k2] at hr ht
          refine (w_nT ht ?_)
          refine w_seq ?_
          refine A_region ?_
          refine w_n ?_
          refine w_ret ?_
          obtain rfl := hD _ hr
          exact (w_endR (A_cut (os' := [none, some (.cells [.val (.sl (List.map eB g.Final)), .val (.sl (List.map (eL eEdge) g.Edges)), .row 3 (List.map eI base), .row 91 (List.map edarray_cell cells), .val (.sl (List.map eI r.1))])]) (sl := [(2, .cv (.val (.ptr (some (h.n + 1, 0))))), (3, .cv (.val (.int .i64 (0 : Int))))]) hwf) (by simp (disch := (apply Apart.mk; decide)) only [go_sem, Nat.reduceAdd, Nat.reduceLT, Nat.reduceMul, Nat.reduceLeDiff, Int.reduceToNat, Int.reduceLT, Int.reduceLE, Try.results23, results_data CT_gives23, resCell, resVal.eq_2, loadOp_sv, cF2, cF4]) ⟨rfl, rfl⟩)
        · refine w_block ?_
          refine w_Loop (fun xX : (Int × List Int × List Tdarray_cell) => ⟨[(9, .cv (.val (.ptr (some (h.n + 1, 0))))), (49, .cv (.val (.sl (List.map (eL eEdge) g.Edges)))), (50, .cv (.val (.int .i64 (g.Edges.length : Int)))), (51, .cv (.val (.int .i64 xX.1)))], h.on [none, some (.cells [.val (.sl (List.map eB g.Final)), .val (.sl (List.map (eL eEdge) g.Edges)), .row 3 (List.map eI xX.2.1), .row 91 (List.map edarray_cell xX.2.2), .val (.sl (List.map eI r.1))])]⟩) hr (A_cut hwf) (fun W1 xX hr => ?_)
          obtain ⟨v1, base1, cells1⟩ := xX
          dsimp only [darray_Pack.b1] at hr
          refine w_seq ?_
          refine A_region ?_
          refine w_n ?_
          refine w_seq ?_
          refine A_condH hr (fun cF5 hr => ?_) (fun cF5 hr => ?_)
          · refine w_skip ?_
            refine w_n ?_
            refine w_seq ?_
            refine w_K (D := (Aft W1 D)) (fun xX : (List Int × List Tdarray_cell) => ⟨[(9, .cv (.val (.ptr (some (h.n + 1, 0))))), (49, .cv (.val (.sl (List.map (eL eEdge) g.Edges)))), (50, .cv (.val (.int .i64 (g.Edges.length : Int)))), (51, .cv (.val (.int .i64 v1)))], h.on [none, some (.cells [.val (.sl (List.map eB g.Final)), .val (.sl (List.map (eL eEdge) g.Edges)), .row 3 (List.map eI xX.1), .row 91 (List.map edarray_cell xX.2), .val (.sl (List.map eI r.1))])]⟩) (fun xX : (List Int × List Tdarray_cell) => darray_Pack.k3 v1 xX.1 xX.2) (fun xX s' hr ht => ?_) ?_
            · obtain ⟨base2, cells2⟩ := xX
              dsimp only [darray_Pack.k3] at hr ht
              refine (w_nT ht ?_)
              refine A_region ?_
              exact (w_k ⟨((IntKind.i64.wrap (v1 + (1 : Int))), base2, cells2), hr, (A_cut hwf)⟩)
            · refine w_block ?_
              refine w_seq ?_
              obtain ⟨xs, nF6, eF7, gF8, hr⟩ := hr.idx
              refine A_region ?_
              refine w_n ?_
              refine w_seq ?_
              refine A_region ?_
              refine w_n ?_
              refine w_seq ?_
              refine w_K (D := (Aft W1 D)) (fun xX : Int => ⟨[(9, .cv (.val (.ptr (some (h.n + 1, 0))))), (10, .cv (.val (.int .i64 v1))), (11, .cv (.val (.sl (List.map eEdge xs)))), (12, .cv (.val (.int .i64 xX))), (49, .cv (.val (.sl (List.map (eL eEdge) g.Edges)))), (50, .cv (.val (.int .i64 (g.Edges.length : Int)))), (51, .cv (.val (.int .i64 v1)))], h.on [none, some (.cells [.val (.sl (List.map eB g.Final)), .val (.sl (List.map (eL eEdge) g.Edges)), .row 3 (List.map eI base1), .row 91 (List.map edarray_cell cells1), .val (.sl (List.map eI r.1))])]⟩) (fun xX : Int => darray_Pack.k4 v1 base1 cells1 xs xX) (fun xX s' hr ht => ?_) ?_
              · obtain ⟨base3, rfl⟩ : ∃ z, z = xX := ⟨xX, rfl⟩
                dsimp only [darray_Pack.k4] at hr ht
                refine (w_nT ht ?_)
                refine w_seq ?_
                refine w_seq ?_
                refine A_region ?_
                refine w_n ?_
                refine w_K (D := (Aft W1 D)) (fun xX : List Tdarray_cell => ⟨[(9, .cv (.val (.ptr (some (h.n + 1, 0))))), (12, .cv (.val (.int .i64 base3))), (49, .cv (.val (.sl (List.map (eL eEdge) g.Edges)))), (50, .cv (.val (.int .i64 (g.Edges.length : Int)))), (51, .cv (.val (.int .i64 v1)))], h.on [none, some (.cells [.val (.sl (List.map eB g.Final)), .val (.sl (List.map (eL eEdge) g.Edges)), .row 3 (List.map eI base1), .row 91 (List.map edarray_cell xX), .val (.sl (List.map eI r.1))])]⟩) (fun xX : List Tdarray_cell => darray_Pack.k5 v1 base1 base3 xX) (fun xX s' hr ht => ?_) ?_
                · obtain ⟨cells3, rfl⟩ : ∃ z, z = xX := ⟨xX, rfl⟩
                  dsimp only [darray_Pack.k5] at hr ht
                  refine (w_nT ht ?_)
                  refine w_seq ?_
                  obtain ⟨nF9, hr⟩ := hr.room
                  refine A_region ?_
                  refine w_n ?_
                  refine w_seq ?_
                  refine A_region ?_
                  refine w_n ?_
                  refine A_condH hr (fun cF10 hr => ?_) (fun cF10 hr => ?_)
                  · refine w_seq ?_
                    refine A_region ?_
                    refine w_n ?_
                    refine w_ret ?_
                    obtain rfl := hD _ hr
                    exact (w_br (w_tr (w_tr (w_tr (w_br (w_tr (w_tr (A_endR (A_cut (os' := []) (sl := [(2, .cv (.val (.ptr none))), (3, .cv (.val (.int .i64 (3 : Int))))]) hwf) ⟨rfl, on_nil hwf⟩))))))))
                  · refine w_skip ?_
                    exact (w_bn (w_k ⟨((base1 ++ ([base3])), cells3), hr, (A_cut hwf)⟩))
                · refine w_block ?_
                  refine w_Loop (fun xX : (Int × List Tdarray_cell) => ⟨[(9, .cv (.val (.ptr (some (h.n + 1, 0))))), (10, .cv (.val (.int .i64 v1))), (12, .cv (.val (.int .i64 base3))), (49, .cv (.val (.sl (List.map (eL eEdge) g.Edges)))), (50, .cv (.val (.int .i64 (g.Edges.length : Int)))), (51, .cv (.val (.int .i64 v1))), (63, .cv (.val (.sl (List.map eEdge xs)))), (64, .cv (.val (.int .i64 (xs.length : Int)))), (65, .cv (.val (.int .i64 xX.1)))], h.on [none, some (.cells [.val (.sl (List.map eB g.Final)), .val (.sl (List.map (eL eEdge) g.Edges)), .row 3 (List.map eI base1), .row 91 (List.map edarray_cell xX.2), .val (.sl (List.map eI r.1))])]⟩) hr (A_cut hwf) (fun W2 xX hr => ?_)
                  obtain ⟨v2, cells4⟩ := xX
                  dsimp only [darray_Pack.b2] at hr
                  refine w_seq ?_
                  refine A_region ?_
                  refine w_n ?_
                  refine w_seq ?_
                  refine A_condH hr (fun cF11 hr => ?_) (fun cF11 hr => ?_)
                  · refine w_skip ?_
                    refine w_n ?_
                    refine w_seq ?_
                    refine w_block ?_
                    refine w_seq ?_
                    obtain ⟨x, nF12, eF13, gF14, hr⟩ := hr.idx
                    refine A_region ?_
                    refine w_n ?_
                    refine w_seq ?_
                    refine A_region ?_
                    refine w_n ?_
                    refine w_seq ?_
                    refine w_seq ?_
                    refine A_region ?_
                    refine w_n ?_
                    refine w_K (D := (Aft W2 (Aft W1 D))) (fun xX : List Tdarray_cell => ⟨[(9, .cv (.val (.ptr (some (h.n + 1, 0))))), (10, .cv (.val (.int .i64 v1))), (12, .cv (.val (.int .i64 base3))), (14, .cv (.val (.ptr (some (h.n + 2, 0))))), (15, .cv (.val (.int .i64 (IntKind.i64.wrap (base3 + (IntKind.i64.wrap (x.Label.toNat : Int))))))), (49, .cv (.val (.sl (List.map (eL eEdge) g.Edges)))), (50, .cv (.val (.int .i64 (g.Edges.length : Int)))), (51, .cv (.val (.int .i64 v1))), (63, .cv (.val (.sl (List.map eEdge xs)))), (64, .cv (.val (.int .i64 (xs.length : Int)))), (65, .cv (.val (.int .i64 v2)))], h.on [none, some (.cells [.val (.sl (List.map eB g.Final)), .val (.sl (List.map (eL eEdge) g.Edges)), .row 3 (List.map eI base1), .row 91 (List.map edarray_cell xX), .val (.sl (List.map eI r.1))]), some (.cells [.val (.int .u8 (x.Label.toNat : Int)), .val (.int .i64 x.To)])]⟩) (fun xX : List Tdarray_cell => darray_Pack.k6 v1 base3 v2 x xX) (fun xX s' hr ht => ?_) ?_
                    · obtain ⟨cells5, rfl⟩ : ∃ z, z = xX := ⟨xX, rfl⟩
                      dsimp only [darray_Pack.k6] at hr ht
                      refine (w_nT ht ?_)
                      refine w_drawn [0, 1, 2, 3, 4, 5, 6, 7, 8, 9, 10, 11] (by rfl) ?_
                      obtain ⟨x1, nF15, eF16, gF17, hr⟩ := hr.idx
                      refine p_run (l := [0, 1, 2, 3, 4, 5, 6, 7, 8, 9, 10]) (pend' := [10, 9, 8, 7, 6, 5, 4, 3, 2, 1, 0]) (by simp (disch := (apply Apart.mk; decide)) only [go_sem, Nat.reduceAdd, Nat.reduceLT, Nat.reduceMul, Nat.reduceLeDiff, Int.reduceToNat, Int.reduceLT, Int.reduceLE, nF15, eF16, gF17]; rfl) rfl ?_
                      refine p_op (pend' := []) rfl (by simp (disch := (apply Apart.mk; decide)) only [go_sem, Nat.reduceAdd, Nat.reduceLT, Nat.reduceMul, Nat.reduceLeDiff, Int.reduceToNat, Int.reduceLT, Int.reduceLE, nF15, eF16, gF17]) (by simp (disch := (apply Apart.mk; decide)) only [go_sem, Nat.reduceAdd, Nat.reduceLT, Nat.reduceMul, Nat.reduceLeDiff, Int.reduceToNat, Int.reduceLT, Int.reduceLE, nF15, eF16, gF17]; rfl) (by rfl) ?_
                      refine p_end (by simp (disch := (apply Apart.mk; decide)) only [go_sem, Nat.reduceAdd, Nat.reduceLT, Nat.reduceMul, Nat.reduceLeDiff, Int.reduceToNat, Int.reduceLT, Int.reduceLE, nF15, eF16, gF17]) ?_
                      refine (w_bn (w_n ?_))
                      refine A_region ?_
                      exact (w_k ⟨((IntKind.i64.wrap (v2 + (1 : Int))), (List.set cells5 (Int.toNat (IntKind.i64.wrap (base3 + (IntKind.i64.wrap (x.Label.toNat : Int))))) (Tdarray_cell.mk (IntKind.i64.wrap (v1 + (1 : Int))) x.To))), hr, (A_cut hwf)⟩)
                    · refine A_condH hr (fun cF18 hr => ?_) (fun cF18 hr => ?_)
                      · refine w_drawn [0, 1, 2, 3, 4, 5, 6, 7, 8, 9, 10, 11, 12, 13, 14, 15, 16] (by rfl) ?_
                        obtain ⟨nF19, nF20, hr⟩ := hr.nat
                        obtain ⟨nF21, hr⟩ := hr.room
                        refine p_run (l := [0, 1, 2, 3, 4, 5, 6, 7, 8, 9, 10, 11, 12]) (pend' := [12, 11, 10, 9, 8, 7, 6, 5, 4, 3, 2, 1, 0]) (by simp (disch := (apply Apart.mk; decide)) only [go_sem, Nat.reduceAdd, Nat.reduceLT, Nat.reduceMul, Nat.reduceLeDiff, Int.reduceToNat, Int.reduceLT, Int.reduceLE, nF19, nF20, nF21]; rfl) rfl ?_
                        refine p_op (pend' := [0]) rfl (by simp (disch := (apply Apart.mk; decide)) only [go_sem, Nat.reduceAdd, Nat.reduceLT, Nat.reduceMul, Nat.reduceLeDiff, Int.reduceToNat, Int.reduceLT, Int.reduceLE, nF19, nF20, nF21]) (by simp (disch := (apply Apart.mk; decide)) only [go_sem, Nat.reduceAdd, Nat.reduceLT, Nat.reduceMul, Nat.reduceLeDiff, Int.reduceToNat, Int.reduceLT, Int.reduceLE, nF19, nF20, nF21]; rfl) (by rfl) ?_
                        refine p_run (l := [14, 15]) (pend' := [15, 14, 0]) (by simp (disch := (apply Apart.mk; decide)) only [go_sem, Nat.reduceAdd, Nat.reduceLT, Nat.reduceMul, Nat.reduceLeDiff, Int.reduceToNat, Int.reduceLT, Int.reduceLE, nF19, nF20, nF21]; rfl) rfl ?_
                        refine p_op (pend' := []) rfl (by simp (disch := (apply Apart.mk; decide)) only [go_sem, Nat.reduceAdd, Nat.reduceLT, Nat.reduceMul, Nat.reduceLeDiff, Int.reduceToNat, Int.reduceLT, Int.reduceLE, nF19, nF20, nF21]) (by simp (disch := (apply Apart.mk; decide)) only [go_sem, Nat.reduceAdd, Nat.reduceLT, Nat.reduceMul, Nat.reduceLeDiff, Int.reduceToNat, Int.reduceLT, Int.reduceLE, nF19, nF20, nF21]; rfl) (by rfl) ?_
                        refine p_end (by simp (disch := (apply Apart.mk; decide)) only [go_sem, Nat.reduceAdd, Nat.reduceLT, Nat.reduceMul, Nat.reduceLeDiff, Int.reduceToNat, Int.reduceLT, Int.reduceLE, nF19, nF20, nF21]) ?_
                        exact (w_k ⟨(cells4 ++ (List.replicate (Int.toNat (IntKind.i64.wrap ((IntKind.i64.wrap ((IntKind.i64.wrap (base3 + (IntKind.i64.wrap (x.Label.toNat : Int)))) + (1 : Int))) - (cells4.length : Int)))) (Tdarray_cell.mk (0 : Int) (0 : Int)))), hr, (A_cut hwf)⟩)
                      · refine w_skip ?_
                        exact (w_k ⟨cells4, hr, (A_cut hwf)⟩)
                  · refine w_exit ?_
                    exact (w_te (w_te (w_bx (w_k ⟨cells4, (hr).map, (A_cut hwf)⟩))))
              · refine w_block ?_
                refine w_Loop (fun xX : Int => ⟨[(9, .cv (.val (.ptr (some (h.n + 1, 0))))), (10, .cv (.val (.int .i64 v1))), (11, .cv (.val (.sl (List.map eEdge xs)))), (12, .cv (.val (.int .i64 xX))), (49, .cv (.val (.sl (List.map (eL eEdge) g.Edges)))), (50, .cv (.val (.int .i64 (g.Edges.length : Int)))), (51, .cv (.val (.int .i64 v1)))], h.on [none, some (.cells [.val (.sl (List.map eB g.Final)), .val (.sl (List.map (eL eEdge) g.Edges)), .row 3 (List.map eI base1), .row 91 (List.map edarray_cell cells1), .val (.sl (List.map eI r.1))])]⟩) hr (A_cut hwf) (fun W3 xX hr => ?_)
                obtain ⟨base4, rfl⟩ : ∃ z, z = xX := ⟨xX, rfl⟩
                dsimp only [darray_Pack.b3] at hr
                refine w_seq ?_
                refine w_seq ?_
                refine A_ops ?_
                refine A_upto 3 ?_
                obtain ⟨r1, eF22, hr⟩ := hr.bind
                refine A_call (out := ?o_eF22) (hp := ?p_eF22) ?c_eF22 ?d_eF22 ?_
                case c_eF22 => (refine darray_Array_fits_runs (Tdarray_Array.mk g base1 cells1 r.1) base4 xs (h.n + 1) ?_ eF22; (simp (disch := (apply Apart.mk; decide)) only [go_sem, Nat.reduceAdd, Nat.reduceLT, Nat.reduceMul, Nat.reduceLeDiff, Int.reduceToNat, Int.reduceLT, Int.reduceLE]))
                case d_eF22 => rfl
                refine A_ops_end ?_
                refine w_n ?_
                refine A_condH hr (fun cF23 hr => ?_) (fun cF23 hr => ?_)
                · refine w_skip ?_
                  refine w_n ?_
                  refine w_block ?_
                  refine A_region ?_
                  exact (w_bn (w_k ⟨(IntKind.i64.wrap (base4 + (1 : Int))), hr, (A_cut hwf)⟩))
                · refine w_exit ?_
                  exact (w_te (w_te (w_bx (w_k ⟨base4, (hr).map, (A_cut hwf)⟩))))
          · refine w_exit ?_
            exact (w_te (w_te (w_bx (w_k ⟨(base1, cells1), (hr).map, (A_cut hwf)⟩))))
    · refine w_block ?_
      refine w_Loop (fun xX : (Int × Int) => ⟨[(1, .cv (.val (.ptr (some (h.n + 0, 0))))), (4, .cv (.val (.sl (List.map eI r.1)))), (6, .cv (.val (.int .i64 xX.1))), (25, .cv (.val (.sl (List.map (eL eEdge) g.Edges)))), (26, .cv (.val (.int .i64 (g.Edges.length : Int)))), (27, .cv (.val (.int .i64 xX.2)))], h.on [some (.cells [.val (.sl (List.map eB g.Final)), .val (.sl (List.map (eL eEdge) g.Edges))])]⟩) hr (A_cut hwf) (fun W4 xX hr => ?_)
      obtain ⟨edges1, v3⟩ := xX
      dsimp only [darray_Pack.b4] at hr
      refine w_seq ?_
      refine A_region ?_
      refine w_n ?_
      refine w_seq ?_
      refine A_condH hr (fun cF24 hr => ?_) (fun cF24 hr => ?_)
      · refine w_skip ?_
        refine w_n ?_
        refine w_seq ?_
        refine w_block ?_
        refine w_seq ?_
        obtain ⟨xs1, nF25, eF26, gF27, hr⟩ := hr.idx
        refine A_region ?_
        refine w_n ?_
        refine A_region ?_
        refine (w_bn (w_n ?_))
        refine A_region ?_
        exact (w_k ⟨((IntKind.i64.wrap (edges1 + (xs1.length : Int))), (IntKind.i64.wrap (v3 + (1 : Int)))), hr, (A_cut hwf)⟩)
      · refine w_exit ?_
        exact (w_te (w_te (w_bx (w_k ⟨edges1, (hr).map, (A_cut hwf)⟩))))
theorem darray_Pack_runs_none (g : TGraph) {h : Heap} {a : (Option Tdarray_Array × Int)} (e : darray_Pack g = some a) (hx : a.1 = none) :
    Runs CT 23 [.cv (.val (.agg [.sl (List.map eB g.Final), .sl (List.map (eL eEdge) g.Edges)]))] h fun o h' => o = [.cv (.val (.ptr none)), .cv (.val (.int .i64 a.2))] ∧ h' = h := by
  have := darray_Pack_runs (h := h) g e
  rw [hx] at this
  exact this
theorem darray_Pack_runs_some (g : TGraph) {h : Heap} {a : (Option Tdarray_Array × Int)} {y : Tdarray_Array} (e : darray_Pack g = some a) (hx : a.1 = some y) :
    Runs CT 23 [.cv (.val (.agg [.sl (List.map eB g.Final), .sl (List.map (eL eEdge) g.Edges)]))] h fun o h' => o = [.cv (.val (.ptr (some (h.n + 1, 0)))), .cv (.val (.int .i64 a.2))] ∧ h' = h.on [none, some (.cells [.val (.sl (List.map eB y.graph.Final)), .val (.sl (List.map (eL eEdge) y.graph.Edges)), .row 3 (List.map eI y.base), .row 91 (List.map edarray_cell y.cells), .val (.sl (List.map eI y.count))])] := by
  have := darray_Pack_runs (h := h) g e
  rw [hx] at this
  exact this
end Go.Val

/- part GW65 -/
/- (*scansion/darray.reader).byte runs as it is read off. -/
namespace Go.Val
set_option linter.unusedVariables false
set_option linter.unusedSimpArgs false
set_option maxRecDepth 20000
open Go.Proofs
theorem darray_reader_byte_runs (r : Tdarray_reader) (l0 : Nat) {h : Heap} (ha0 : h.at_ l0 = some (.cells [.val (.sl (List.map eU r.rest_)), .val (.bool r.fault)])) {a : (UInt8 × Tdarray_reader)} (e : darray_reader_byte r = some a) :
    Runs CT 65 [.cv (.val (.ptr (some (l0, 0))))] h fun o h' => o = [.cv (.val (.int .u8 (a.1.toNat : Int)))] ∧ h' = (h.upd l0 (.cells [.val (.sl (List.map eU a.2.rest_)), .val (.bool a.2.fault)])) := by
  refine Runs.start Try.f65 _ Try.func65 rfl (by rw [Try.ntmps65]; simp) (by rfl) (by rfl) (fun hwf hu => ?_)
  have hl0 := (hwf _ _ ha0).1
  have kl0 := locF hl0
  obtain ⟨D, hD, hr⟩ : ∃ D : (UInt8 × Tdarray_reader) → Prop, (∀ z, D z → z = a) ∧ Holds (darray_reader_byte r) D := ⟨fun z => z = a, fun _ h => h, Holds.intro e rfl⟩
  dsimp only [darray_reader_byte] at hr
  change wpCode _ _ _ _ _ ⟨[(0, .cv (.val (.ptr (some (l0, 0)))))], h.on []⟩
  refine w_seq ?_
  refine w_region rfl (by simp (disch := (apply Apart.mk; decide)) only [go_sem, Nat.reduceAdd, Nat.reduceLT, Nat.reduceMul, Nat.reduceLeDiff, Int.reduceToNat, Int.reduceLT, Int.reduceLE, ha0, on_atB hl0, lt_add hl0, lt_at hl0, on_updB hl0, on_atU hl0, on_updU hl0, upd_same ha0]; rfl) ?_
  refine w_n ?_
  refine w_seq ?_
  obtain ⟨fault, vF2, hr⟩ := hr.bind
  refine w_joinR (sj := ⟨[(0, .cv (.val (.ptr (some (l0, 0)))))], (h.upd l0 (.cells [.val (.sl (List.map eU r.rest_)), .val (.bool fault)])).on []⟩) (A_ops ?_) ?_
  · have hr := Holds.intro (D := fun z => z = fault) vF2 rfl
    refine w_upto 6 rfl (by simp (disch := (apply Apart.mk; decide)) only [go_sem, Nat.reduceAdd, Nat.reduceLT, Nat.reduceMul, Nat.reduceLeDiff, Int.reduceToNat, Int.reduceLT, Int.reduceLE, ha0, on_atB hl0, lt_add hl0, lt_at hl0, on_updB hl0, on_atU hl0, on_updU hl0, upd_same ha0]; rfl) ?_
    rcases hr.ite with ⟨cF1, hr⟩ | ⟨cF1, hr⟩
    · refine w_ops_end (by simp (disch := (apply Apart.mk; decide)) only [go_sem, Nat.reduceAdd, Nat.reduceLT, Nat.reduceMul, Nat.reduceLeDiff, Int.reduceToNat, Int.reduceLT, Int.reduceLE, ha0, on_atB hl0, lt_add hl0, lt_at hl0, on_updB hl0, on_atU hl0, on_updU hl0, upd_same ha0, cF1]; rfl) ?_
      obtain rfl : _ = fault := hr
      exact w_k (To.cut (h := (h.upd l0 (.cells [.val (.sl (List.map eU r.rest_)), .val (.bool true)]))) (WF.upd hwf hl0 (by simp (disch := (apply Apart.mk; decide)) only [go_sem, Nat.reduceAdd, Nat.reduceLT, Nat.reduceMul, Nat.reduceLeDiff, Int.reduceToNat, Int.reduceLT, Int.reduceLE, ha0, on_atB hl0, lt_add hl0, lt_at hl0, on_updB hl0, on_atU hl0, on_updU hl0, upd_same ha0])) (Nat.le_refl _) (by first | rfl | (simp (disch := (apply Apart.mk; decide)) only [go_sem, Nat.reduceAdd, Nat.reduceLT, Nat.reduceMul, Nat.reduceLeDiff, Int.reduceToNat, Int.reduceLT, Int.reduceLE, ha0, on_atB hl0, lt_add hl0, lt_at hl0, on_updB hl0, on_atU hl0, on_updU hl0, upd_same ha0, cF1]; rfl)) (by simp (disch := (apply Apart.mk; decide)) only [go_sem, Nat.reduceAdd, Nat.reduceLT, Nat.reduceMul, Nat.reduceLeDiff, Int.reduceToNat, Int.reduceLT, Int.reduceLE, ha0, on_atB hl0, lt_add hl0, lt_at hl0, on_updB hl0, on_atU hl0, on_updU hl0, upd_same ha0, cF1]))
    · refine w_ops_end (by simp (disch := (apply Apart.mk; decide)) only [go_sem, Nat.reduceAdd, Nat.reduceLT, Nat.reduceMul, Nat.reduceLeDiff, Int.reduceToNat, Int.reduceLT, Int.reduceLE, ha0, on_atB hl0, lt_add hl0, lt_at hl0, on_updB hl0, on_atU hl0, on_updU hl0, upd_same ha0, cF1]; rfl) ?_
      obtain rfl : _ = fault := hr
      exact w_k (To.cut (h := (h.upd l0 (.cells [.val (.sl (List.map eU r.rest_)), .val (.bool ((r.rest_.length : Int) == (0 : Int)))]))) (WF.upd hwf hl0 (by simp (disch := (apply Apart.mk; decide)) only [go_sem, Nat.reduceAdd, Nat.reduceLT, Nat.reduceMul, Nat.reduceLeDiff, Int.reduceToNat, Int.reduceLT, Int.reduceLE, ha0, on_atB hl0, lt_add hl0, lt_at hl0, on_updB hl0, on_atU hl0, on_updU hl0, upd_same ha0])) (Nat.le_refl _) (by first | rfl | (simp (disch := (apply Apart.mk; decide)) only [go_sem, Nat.reduceAdd, Nat.reduceLT, Nat.reduceMul, Nat.reduceLeDiff, Int.reduceToNat, Int.reduceLT, Int.reduceLE, ha0, on_atB hl0, lt_add hl0, lt_at hl0, on_updB hl0, on_atU hl0, on_updU hl0, upd_same ha0, cF1]; rfl)) (by simp (disch := (apply Apart.mk; decide)) only [go_sem, Nat.reduceAdd, Nat.reduceLT, Nat.reduceMul, Nat.reduceLeDiff, Int.reduceToNat, Int.reduceLT, Int.reduceLE, ha0, on_atB hl0, lt_add hl0, lt_at hl0, on_updB hl0, on_atU hl0, on_updU hl0, upd_same ha0, cF1]))
  refine w_seq ?_
  refine w_region rfl (by simp (disch := (apply Apart.mk; decide)) only [go_sem, Nat.reduceAdd, Nat.reduceLT, Nat.reduceMul, Nat.reduceLeDiff, Int.reduceToNat, Int.reduceLT, Int.reduceLE, ha0, on_atB hl0, lt_add hl0, lt_at hl0, on_updB hl0, on_atU hl0, on_updU hl0, upd_same ha0]; rfl) ?_
  refine w_n ?_
  refine w_condH (by simp (disch := (apply Apart.mk; decide)) only [go_sem, Nat.reduceAdd, Nat.reduceLT, Nat.reduceMul, Nat.reduceLeDiff, Int.reduceToNat, Int.reduceLT, Int.reduceLE, ha0, on_atB hl0, lt_add hl0, lt_at hl0, on_updB hl0, on_atU hl0, on_updU hl0, upd_same ha0]) hr (fun cF3 hr => ?_) (fun cF3 hr => ?_)
  · refine w_seq ?_
    refine w_region rfl (by simp (disch := (apply Apart.mk; decide)) only [go_sem, Nat.reduceAdd, Nat.reduceLT, Nat.reduceMul, Nat.reduceLeDiff, Int.reduceToNat, Int.reduceLT, Int.reduceLE, ha0, on_atB hl0, lt_add hl0, lt_at hl0, on_updB hl0, on_atU hl0, on_updU hl0, upd_same ha0, cF3]; rfl) ?_
    refine w_n ?_
    refine w_ret ?_
    obtain rfl := hD _ hr
    exact (w_tr (w_endR (To.cut (os' := []) (sl := [(2, .cv (.val (.int .u8 (0 : Int))))]) (h := (h.upd l0 (.cells [.val (.sl (List.map eU r.rest_)), .val (.bool fault)]))) (WF.upd hwf hl0 (by simp (disch := (apply Apart.mk; decide)) only [go_sem, Nat.reduceAdd, Nat.reduceLT, Nat.reduceMul, Nat.reduceLeDiff, Int.reduceToNat, Int.reduceLT, Int.reduceLE, ha0, on_atB hl0, lt_add hl0, lt_at hl0, on_updB hl0, on_atU hl0, on_updU hl0, upd_same ha0])) (Nat.le_refl _) (by first | rfl | (simp (disch := (apply Apart.mk; decide)) only [go_sem, Nat.reduceAdd, Nat.reduceLT, Nat.reduceMul, Nat.reduceLeDiff, Int.reduceToNat, Int.reduceLT, Int.reduceLE, ha0, on_atB hl0, lt_add hl0, lt_at hl0, on_updB hl0, on_atU hl0, on_updU hl0, upd_same ha0, cF3]; rfl)) (by simp (disch := (apply Apart.mk; decide)) only [go_sem, Nat.reduceAdd, Nat.reduceLT, Nat.reduceMul, Nat.reduceLeDiff, Int.reduceToNat, Int.reduceLT, Int.reduceLE, ha0, on_atB hl0, lt_add hl0, lt_at hl0, on_updB hl0, on_atU hl0, on_updU hl0, upd_same ha0, cF3])) (by simp (disch := (apply Apart.mk; decide)) only [go_sem, Nat.reduceAdd, Nat.reduceLT, Nat.reduceMul, Nat.reduceLeDiff, Int.reduceToNat, Int.reduceLT, Int.reduceLE, ha0, on_atB hl0, lt_add hl0, lt_at hl0, on_updB hl0, on_atU hl0, on_updU hl0, upd_same ha0, Try.results65, results_data CT_gives65, resCell, resVal.eq_2, loadOp_sv, cF3]) ⟨rfl, on_nil (h := (h.upd l0 (.cells [.val (.sl (List.map eU r.rest_)), .val (.bool fault)]))) (WF.upd hwf hl0 (by simp (disch := (apply Apart.mk; decide)) only [go_sem, Nat.reduceAdd, Nat.reduceLT, Nat.reduceMul, Nat.reduceLeDiff, Int.reduceToNat, Int.reduceLT, Int.reduceLE, ha0, on_atB hl0, lt_add hl0, lt_at hl0, on_updB hl0, on_atU hl0, on_updU hl0, upd_same ha0]))⟩))
  · refine w_skip ?_
    refine w_n ?_
    refine w_seq ?_
    obtain ⟨n, eF4, gF5, hr⟩ := hr.idxK
    refine w_region rfl (by simp (disch := (apply Apart.mk; decide)) only [go_sem, Nat.reduceAdd, Nat.reduceLT, Nat.reduceMul, Nat.reduceLeDiff, Int.reduceToNat, Int.reduceLT, Int.reduceLE, ha0, on_atB hl0, lt_add hl0, lt_at hl0, on_updB hl0, on_atU hl0, on_updU hl0, upd_same ha0, eF4, gF5, cF3]; rfl) ?_
    refine w_n ?_
    refine w_seq ?_
    obtain ⟨nF6, nF7, hr⟩ := hr.cutL
    refine w_region rfl (by simp (disch := (apply Apart.mk; decide)) only [go_sem, Nat.reduceAdd, Nat.reduceLT, Nat.reduceMul, Nat.reduceLeDiff, Int.reduceToNat, Int.reduceLT, Int.reduceLE, ha0, on_atB hl0, lt_add hl0, lt_at hl0, on_updB hl0, on_atU hl0, on_updU hl0, upd_same ha0, nF6, nF7, cF3]; rfl) ?_
    refine w_n ?_
    refine w_seq ?_
    refine w_region rfl (by simp (disch := (apply Apart.mk; decide)) only [go_sem, Nat.reduceAdd, Nat.reduceLT, Nat.reduceMul, Nat.reduceLeDiff, Int.reduceToNat, Int.reduceLT, Int.reduceLE, ha0, on_atB hl0, lt_add hl0, lt_at hl0, on_updB hl0, on_atU hl0, on_updU hl0, upd_same ha0, cF3]; rfl) ?_
    refine w_n ?_
    refine w_ret ?_
    obtain rfl := hD _ hr
    exact (w_endR (To.cut (os' := []) (sl := [(2, .cv (.val (.int .u8 (n.toNat : Int))))]) (h := (h.upd l0 (.cells [.val (.sl (List.map eU (List.drop (Int.toNat (1 : Int)) r.rest_))), .val (.bool fault)]))) (WF.upd hwf hl0 (by simp (disch := (apply Apart.mk; decide)) only [go_sem, Nat.reduceAdd, Nat.reduceLT, Nat.reduceMul, Nat.reduceLeDiff, Int.reduceToNat, Int.reduceLT, Int.reduceLE, ha0, on_atB hl0, lt_add hl0, lt_at hl0, on_updB hl0, on_atU hl0, on_updU hl0, upd_same ha0])) (Nat.le_refl _) (by first | rfl | (simp (disch := (apply Apart.mk; decide)) only [go_sem, Nat.reduceAdd, Nat.reduceLT, Nat.reduceMul, Nat.reduceLeDiff, Int.reduceToNat, Int.reduceLT, Int.reduceLE, ha0, on_atB hl0, lt_add hl0, lt_at hl0, on_updB hl0, on_atU hl0, on_updU hl0, upd_same ha0, cF3]; rfl)) (by simp (disch := (apply Apart.mk; decide)) only [go_sem, Nat.reduceAdd, Nat.reduceLT, Nat.reduceMul, Nat.reduceLeDiff, Int.reduceToNat, Int.reduceLT, Int.reduceLE, ha0, on_atB hl0, lt_add hl0, lt_at hl0, on_updB hl0, on_atU hl0, on_updU hl0, upd_same ha0, cF3])) (by simp (disch := (apply Apart.mk; decide)) only [go_sem, Nat.reduceAdd, Nat.reduceLT, Nat.reduceMul, Nat.reduceLeDiff, Int.reduceToNat, Int.reduceLT, Int.reduceLE, ha0, on_atB hl0, lt_add hl0, lt_at hl0, on_updB hl0, on_atU hl0, on_updU hl0, upd_same ha0, Try.results65, results_data CT_gives65, resCell, resVal.eq_2, loadOp_sv, cF3]) ⟨rfl, on_nil (h := (h.upd l0 (.cells [.val (.sl (List.map eU (List.drop (Int.toNat (1 : Int)) r.rest_))), .val (.bool fault)]))) (WF.upd hwf hl0 (by simp (disch := (apply Apart.mk; decide)) only [go_sem, Nat.reduceAdd, Nat.reduceLT, Nat.reduceMul, Nat.reduceLeDiff, Int.reduceToNat, Int.reduceLT, Int.reduceLE, ha0, on_atB hl0, lt_add hl0, lt_at hl0, on_updB hl0, on_atU hl0, on_updU hl0, upd_same ha0]))⟩)
end Go.Val

/- part GW81 -/
/- scansion/packed.Told runs as it is read off. -/
namespace Go.Val
set_option linter.unusedVariables false
set_option linter.unusedSimpArgs false
set_option maxRecDepth 20000
open Go.Proofs
theorem packed_Told_runs (b : List UInt8) {h : Heap} {a : (Int × Int × Int)} (e : packed_Told b = some a) :
    Runs CT 81 [.cv (.val (.sl (List.map eU b)))] h fun o h' => o = [.cv (.val (.int .i64 a.1)), .cv (.val (.int .i64 a.2.1)), .cv (.val (.int .i64 a.2.2))] ∧ h' = h := by
  refine Runs.start Try.f81 _ Try.func81 rfl (by rw [Try.ntmps81]; simp) (by rfl) (by rfl) (fun hwf hu => ?_)
  obtain ⟨D, hD, hr⟩ : ∃ D : (Int × Int × Int) → Prop, (∀ z, D z → z = a) ∧ Holds (packed_Told b) D := ⟨fun z => z = a, fun _ h => h, Holds.intro e rfl⟩
  dsimp only [packed_Told] at hr
  change wpCode _ _ _ _ _ ⟨[(0, .cv (.val (.sl (List.map eU b))))], h.on []⟩
  refine w_seq ?_
  refine A_region ?_
  refine w_n ?_
  refine w_seq ?_
  refine A_region ?_
  refine w_n ?_
  refine w_seq ?_
  refine w_seq ?_
  refine A_region ?_
  refine w_n ?_
  refine w_K (D := D) (fun xX : Unit => ⟨[], h.on []⟩) (fun xX : Unit => packed_Told.k1) (fun xX s' hr ht => ?_) ?_
  · dsimp only [packed_Told.k1] at hr ht
    refine (w_nT ht ?_)
    refine w_seq ?_
    refine A_region ?_
    refine w_n ?_
    refine w_ret ?_
    obtain rfl := hD _ hr
    exact (A_endR (A_cut (os' := []) (sl := [(2, .cv (.val (.int .i64 (0 : Int)))), (3, .cv (.val (.int .i64 (0 : Int)))), (4, .cv (.val (.int .i64 (2 : Int))))]) hwf) ⟨rfl, on_nil hwf⟩)
  · refine w_block ?_
    refine w_Loop (fun xX : (Int × Int) => ⟨[(0, .cv (.val (.sl (List.map eU b)))), (5, .cv (.val (.int .i64 xX.1))), (6, .cv (.val (.int .i64 xX.2)))], h.on []⟩) hr (A_cut hwf) (fun W1 xX hr => ?_)
    obtain ⟨n, i⟩ := xX
    dsimp only [packed_Told.b1] at hr
    refine w_seq ?_
    refine w_seq ?_
    refine A_region ?_
    refine w_n ?_
    refine A_condH hr (fun cF1 hr => ?_) (fun cF1 hr => ?_)
    · refine w_skip ?_
      refine w_n ?_
      refine w_seq ?_
      refine w_block ?_
      refine w_seq ?_
      obtain ⟨n1, nF2, eF3, gF4, hr⟩ := hr.idx
      (obtain ⟨z, eF5, hr⟩ := hr.bind; replace eF5 := Option.some.inj eF5; simp only [shL, shR, bAnd, bOr, bXor, bNot, IntKind.bits] at eF5)
      obtain ⟨nF6, nF7, hr⟩ := hr.nat
      (obtain ⟨z1, eF8, hr⟩ := hr.bind; replace eF8 := Option.some.inj eF8; simp only [shL, shR, bAnd, bOr, bXor, bNot, IntKind.bits] at eF8)
      (obtain ⟨z2, eF9, hr⟩ := hr.bind; replace eF9 := Option.some.inj eF9; simp only [shL, shR, bAnd, bOr, bXor, bNot, IntKind.bits] at eF9)
      refine A_region ?_
      refine w_n ?_
      refine w_seq ?_
      refine A_region ?_
      refine w_n ?_
      refine A_condH hr (fun cF10 hr => ?_) (fun cF10 hr => ?_)
      · refine w_seq ?_
        refine w_joinR (sj := ⟨[(5, .cv (.val (.int .i64 z2))), (6, .cv (.val (.int .i64 i))), (42, .cv (.val (.bool ((decide (z2 > (2147483647 : Int))) || ((decide (i > (0 : Int))) && ((n1.toNat : Int) == (0 : Int)))))))], h.on []⟩) (A_ops ?_) ?_
        · refine A_upto 3 ?_
          rcases Bool.eq_false_or_eq_true (decide (z2 > (2147483647 : Int))) with cF11 | cF11
          · refine A_ops_end ?_
            exact w_k (A_cut hwf)
          · refine A_upto 3 ?_
            rcases Bool.eq_false_or_eq_true (decide (i > (0 : Int))) with cF12 | cF12
            · refine A_ops_end ?_
              exact w_k (A_cut hwf)
            · refine A_ops_end ?_
              exact w_k (A_cut hwf)
        refine A_condH hr (fun cF13 hr => ?_) (fun cF13 hr => ?_)
        · refine w_exit ?_
          exact (w_te (w_bo (w_te (w_te (w_bx (w_k ⟨(), (hr).map, (A_cut hwf)⟩)))) rfl))
        · refine w_skip ?_
          refine w_n ?_
          refine w_seq ?_
          refine A_region ?_
          refine w_n ?_
          refine w_ret ?_
          obtain rfl := hD _ hr
          exact (w_br (w_tr (w_tr (w_br (w_tr (w_tr (A_endR (A_cut (os' := []) (sl := [(2, .cv (.val (.int .i64 z2))), (3, .cv (.val (.int .i64 (IntKind.i64.wrap (i + (1 : Int)))))), (4, .cv (.val (.int .i64 (0 : Int))))]) hwf) ⟨rfl, on_nil hwf⟩)))))))
      · refine w_skip ?_
        refine (w_bn (w_n ?_))
        refine A_region ?_
        exact (w_k ⟨(z2, (IntKind.i64.wrap (i + (1 : Int)))), hr, (A_cut hwf)⟩)
    · refine w_exit ?_
      exact (w_te (w_te (w_bx (w_k ⟨(), (hr).map, (A_cut hwf)⟩))))
end Go.Val

/- part GW64 -/
/- (*scansion/darray.reader).number runs as it is read off. -/
namespace Go.Val
set_option linter.unusedVariables false
set_option linter.unusedSimpArgs false
set_option maxRecDepth 20000
open Go.Proofs
theorem darray_reader_number_runs (r : Tdarray_reader) (most : Int) (l0 : Nat) {h : Heap} (ha0 : h.at_ l0 = some (.cells [.val (.sl (List.map eU r.rest_)), .val (.bool r.fault)])) {a : (Int × Tdarray_reader)} (e : darray_reader_number r most = some a) :
    Runs CT 64 [.cv (.val (.ptr (some (l0, 0)))), .cv (.val (.int .i64 most))] h fun o h' => o = [.cv (.val (.int .i64 a.1))] ∧ h' = (h.upd l0 (.cells [.val (.sl (List.map eU a.2.rest_)), .val (.bool a.2.fault)])) := by
  refine Runs.start Try.f64 _ Try.func64 rfl (by rw [Try.ntmps64]; simp) (by rfl) (by rfl) (fun hwf hu => ?_)
  have hl0 := (hwf _ _ ha0).1
  have kl0 := locF hl0
  obtain ⟨D, hD, hr⟩ : ∃ D : (Int × Tdarray_reader) → Prop, (∀ z, D z → z = a) ∧ Holds (darray_reader_number r most) D := ⟨fun z => z = a, fun _ h => h, Holds.intro e rfl⟩
  dsimp only [darray_reader_number] at hr
  change wpCode _ _ _ _ _ ⟨[(0, .cv (.val (.ptr (some (l0, 0))))), (1, .cv (.val (.int .i64 most)))], h.on []⟩
  refine w_seq ?_
  refine w_region rfl (by simp (disch := (apply Apart.mk; decide)) only [go_sem, Nat.reduceAdd, Nat.reduceLT, Nat.reduceMul, Nat.reduceLeDiff, Int.reduceToNat, Int.reduceLT, Int.reduceLE, ha0, on_atB hl0, lt_add hl0, lt_at hl0, on_updB hl0, on_atU hl0, on_updU hl0, upd_same ha0]; rfl) ?_
  refine w_n ?_
  refine w_seq ?_
  refine A_ops ?_
  refine w_upto 4 rfl (by simp (disch := (apply Apart.mk; decide)) only [go_sem, Nat.reduceAdd, Nat.reduceLT, Nat.reduceMul, Nat.reduceLeDiff, Int.reduceToNat, Int.reduceLT, Int.reduceLE, ha0, on_atB hl0, lt_add hl0, lt_at hl0, on_updB hl0, on_atU hl0, on_updU hl0, upd_same ha0]; rfl) ?_
  obtain ⟨r1, eF1, hr⟩ := hr.bind
  refine w_call' (out := ?o_eF1) (hp := ?p_eF1) rfl (by simp (disch := (apply Apart.mk; decide)) only [go_sem, Nat.reduceAdd, Nat.reduceLT, Nat.reduceMul, Nat.reduceLeDiff, Int.reduceToNat, Int.reduceLT, Int.reduceLE, ha0, on_atB hl0, lt_add hl0, lt_at hl0, on_updB hl0, on_atU hl0, on_updU hl0, upd_same ha0, Option.getD_some]; rfl) (by simp (disch := (apply Apart.mk; decide)) only [go_sem, Nat.reduceAdd, Nat.reduceLT, Nat.reduceMul, Nat.reduceLeDiff, Int.reduceToNat, Int.reduceLT, Int.reduceLE, ha0, on_atB hl0, lt_add hl0, lt_at hl0, on_updB hl0, on_atU hl0, on_updU hl0, upd_same ha0, Option.getD_some]; rfl) (by simp (disch := (apply Apart.mk; decide)) only [go_sem, Nat.reduceAdd, Nat.reduceLT, Nat.reduceMul, Nat.reduceLeDiff, Int.reduceToNat, Int.reduceLT, Int.reduceLE, ha0, on_atB hl0, lt_add hl0, lt_at hl0, on_updB hl0, on_atU hl0, on_updU hl0, upd_same ha0, Option.getD_some]; rfl) ?c_eF1 ?d_eF1 ?_
  case c_eF1 => exact packed_Told_runs r.rest_ eF1
  case d_eF1 => rfl
  refine w_ops_end (by simp (disch := (apply Apart.mk; decide)) only [go_sem, Nat.reduceAdd, Nat.reduceLT, Nat.reduceMul, Nat.reduceLeDiff, Int.reduceToNat, Int.reduceLT, Int.reduceLE, ha0, on_atB hl0, lt_add hl0, lt_at hl0, on_updB hl0, on_atU hl0, on_updU hl0, upd_same ha0]; rfl) ?_
  refine w_n ?_
  refine w_seq ?_
  obtain ⟨fault, vF4, hr⟩ := hr.bind
  refine w_joinR (sj := ⟨[(0, .cv (.val (.ptr (some (l0, 0))))), (5, .cv (.val (.int .i64 r1.1))), (6, .cv (.val (.int .i64 r1.2.1)))], (h.upd l0 (.cells [.val (.sl (List.map eU r.rest_)), .val (.bool fault)])).on []⟩) (A_ops ?_) ?_
  · have hr := Holds.intro (D := fun z => z = fault) vF4 rfl
    refine w_upto 6 rfl (by simp (disch := (apply Apart.mk; decide)) only [go_sem, Nat.reduceAdd, Nat.reduceLT, Nat.reduceMul, Nat.reduceLeDiff, Int.reduceToNat, Int.reduceLT, Int.reduceLE, ha0, on_atB hl0, lt_add hl0, lt_at hl0, on_updB hl0, on_atU hl0, on_updU hl0, upd_same ha0]; rfl) ?_
    rcases hr.ite with ⟨cF2, hr⟩ | ⟨cF2, hr⟩
    · refine w_ops_end (by simp (disch := (apply Apart.mk; decide)) only [go_sem, Nat.reduceAdd, Nat.reduceLT, Nat.reduceMul, Nat.reduceLeDiff, Int.reduceToNat, Int.reduceLT, Int.reduceLE, ha0, on_atB hl0, lt_add hl0, lt_at hl0, on_updB hl0, on_atU hl0, on_updU hl0, upd_same ha0, cF2]; rfl) ?_
      obtain rfl : _ = fault := hr
      exact w_k (To.cut (h := (h.upd l0 (.cells [.val (.sl (List.map eU r.rest_)), .val (.bool true)]))) (WF.upd hwf hl0 (by simp (disch := (apply Apart.mk; decide)) only [go_sem, Nat.reduceAdd, Nat.reduceLT, Nat.reduceMul, Nat.reduceLeDiff, Int.reduceToNat, Int.reduceLT, Int.reduceLE, ha0, on_atB hl0, lt_add hl0, lt_at hl0, on_updB hl0, on_atU hl0, on_updU hl0, upd_same ha0])) (Nat.le_refl _) (by first | rfl | (simp (disch := (apply Apart.mk; decide)) only [go_sem, Nat.reduceAdd, Nat.reduceLT, Nat.reduceMul, Nat.reduceLeDiff, Int.reduceToNat, Int.reduceLT, Int.reduceLE, ha0, on_atB hl0, lt_add hl0, lt_at hl0, on_updB hl0, on_atU hl0, on_updU hl0, upd_same ha0, cF2]; rfl)) (by simp (disch := (apply Apart.mk; decide)) only [go_sem, Nat.reduceAdd, Nat.reduceLT, Nat.reduceMul, Nat.reduceLeDiff, Int.reduceToNat, Int.reduceLT, Int.reduceLE, ha0, on_atB hl0, lt_add hl0, lt_at hl0, on_updB hl0, on_atU hl0, on_updU hl0, upd_same ha0, cF2]))
    · refine w_upto 4 rfl (by simp (disch := (apply Apart.mk; decide)) only [go_sem, Nat.reduceAdd, Nat.reduceLT, Nat.reduceMul, Nat.reduceLeDiff, Int.reduceToNat, Int.reduceLT, Int.reduceLE, ha0, on_atB hl0, lt_add hl0, lt_at hl0, on_updB hl0, on_atU hl0, on_updU hl0, upd_same ha0, cF2]; rfl) ?_
      rcases hr.ite with ⟨cF3, hr⟩ | ⟨cF3, hr⟩
      · refine w_ops_end (by simp (disch := (apply Apart.mk; decide)) only [go_sem, Nat.reduceAdd, Nat.reduceLT, Nat.reduceMul, Nat.reduceLeDiff, Int.reduceToNat, Int.reduceLT, Int.reduceLE, ha0, on_atB hl0, lt_add hl0, lt_at hl0, on_updB hl0, on_atU hl0, on_updU hl0, upd_same ha0, cF2, cF3]; rfl) ?_
        obtain rfl : _ = fault := hr
        exact w_k (To.cut (h := (h.upd l0 (.cells [.val (.sl (List.map eU r.rest_)), .val (.bool true)]))) (WF.upd hwf hl0 (by simp (disch := (apply Apart.mk; decide)) only [go_sem, Nat.reduceAdd, Nat.reduceLT, Nat.reduceMul, Nat.reduceLeDiff, Int.reduceToNat, Int.reduceLT, Int.reduceLE, ha0, on_atB hl0, lt_add hl0, lt_at hl0, on_updB hl0, on_atU hl0, on_updU hl0, upd_same ha0])) (Nat.le_refl _) (by first | rfl | (simp (disch := (apply Apart.mk; decide)) only [go_sem, Nat.reduceAdd, Nat.reduceLT, Nat.reduceMul, Nat.reduceLeDiff, Int.reduceToNat, Int.reduceLT, Int.reduceLE, ha0, on_atB hl0, lt_add hl0, lt_at hl0, on_updB hl0, on_atU hl0, on_updU hl0, upd_same ha0, cF2, cF3]; rfl)) (by simp (disch := (apply Apart.mk; decide)) only [go_sem, Nat.reduceAdd, Nat.reduceLT, Nat.reduceMul, Nat.reduceLeDiff, Int.reduceToNat, Int.reduceLT, Int.reduceLE, ha0, on_atB hl0, lt_add hl0, lt_at hl0, on_updB hl0, on_atU hl0, on_updU hl0, upd_same ha0, cF2, cF3]))
      · refine w_ops_end (by simp (disch := (apply Apart.mk; decide)) only [go_sem, Nat.reduceAdd, Nat.reduceLT, Nat.reduceMul, Nat.reduceLeDiff, Int.reduceToNat, Int.reduceLT, Int.reduceLE, ha0, on_atB hl0, lt_add hl0, lt_at hl0, on_updB hl0, on_atU hl0, on_updU hl0, upd_same ha0, cF2, cF3]; rfl) ?_
        obtain rfl : _ = fault := hr
        exact w_k (To.cut (h := (h.upd l0 (.cells [.val (.sl (List.map eU r.rest_)), .val (.bool (decide (r1.1 > most)))]))) (WF.upd hwf hl0 (by simp (disch := (apply Apart.mk; decide)) only [go_sem, Nat.reduceAdd, Nat.reduceLT, Nat.reduceMul, Nat.reduceLeDiff, Int.reduceToNat, Int.reduceLT, Int.reduceLE, ha0, on_atB hl0, lt_add hl0, lt_at hl0, on_updB hl0, on_atU hl0, on_updU hl0, upd_same ha0])) (Nat.le_refl _) (by first | rfl | (simp (disch := (apply Apart.mk; decide)) only [go_sem, Nat.reduceAdd, Nat.reduceLT, Nat.reduceMul, Nat.reduceLeDiff, Int.reduceToNat, Int.reduceLT, Int.reduceLE, ha0, on_atB hl0, lt_add hl0, lt_at hl0, on_updB hl0, on_atU hl0, on_updU hl0, upd_same ha0, cF2, cF3]; rfl)) (by simp (disch := (apply Apart.mk; decide)) only [go_sem, Nat.reduceAdd, Nat.reduceLT, Nat.reduceMul, Nat.reduceLeDiff, Int.reduceToNat, Int.reduceLT, Int.reduceLE, ha0, on_atB hl0, lt_add hl0, lt_at hl0, on_updB hl0, on_atU hl0, on_updU hl0, upd_same ha0, cF2, cF3]))
  refine w_seq ?_
  refine w_region rfl (by simp (disch := (apply Apart.mk; decide)) only [go_sem, Nat.reduceAdd, Nat.reduceLT, Nat.reduceMul, Nat.reduceLeDiff, Int.reduceToNat, Int.reduceLT, Int.reduceLE, ha0, on_atB hl0, lt_add hl0, lt_at hl0, on_updB hl0, on_atU hl0, on_updU hl0, upd_same ha0]; rfl) ?_
  refine w_n ?_
  refine w_condH (by simp (disch := (apply Apart.mk; decide)) only [go_sem, Nat.reduceAdd, Nat.reduceLT, Nat.reduceMul, Nat.reduceLeDiff, Int.reduceToNat, Int.reduceLT, Int.reduceLE, ha0, on_atB hl0, lt_add hl0, lt_at hl0, on_updB hl0, on_atU hl0, on_updU hl0, upd_same ha0]) hr (fun cF5 hr => ?_) (fun cF5 hr => ?_)
  · refine w_seq ?_
    refine w_region rfl (by simp (disch := (apply Apart.mk; decide)) only [go_sem, Nat.reduceAdd, Nat.reduceLT, Nat.reduceMul, Nat.reduceLeDiff, Int.reduceToNat, Int.reduceLT, Int.reduceLE, ha0, on_atB hl0, lt_add hl0, lt_at hl0, on_updB hl0, on_atU hl0, on_updU hl0, upd_same ha0, cF5]; rfl) ?_
    refine w_n ?_
    refine w_ret ?_
    obtain rfl := hD _ hr
    exact (w_tr (w_endR (To.cut (os' := []) (sl := [(4, .cv (.val (.int .i64 (0 : Int))))]) (h := (h.upd l0 (.cells [.val (.sl (List.map eU r.rest_)), .val (.bool fault)]))) (WF.upd hwf hl0 (by simp (disch := (apply Apart.mk; decide)) only [go_sem, Nat.reduceAdd, Nat.reduceLT, Nat.reduceMul, Nat.reduceLeDiff, Int.reduceToNat, Int.reduceLT, Int.reduceLE, ha0, on_atB hl0, lt_add hl0, lt_at hl0, on_updB hl0, on_atU hl0, on_updU hl0, upd_same ha0])) (Nat.le_refl _) (by first | rfl | (simp (disch := (apply Apart.mk; decide)) only [go_sem, Nat.reduceAdd, Nat.reduceLT, Nat.reduceMul, Nat.reduceLeDiff, Int.reduceToNat, Int.reduceLT, Int.reduceLE, ha0, on_atB hl0, lt_add hl0, lt_at hl0, on_updB hl0, on_atU hl0, on_updU hl0, upd_same ha0, cF5]; rfl)) (by simp (disch := (apply Apart.mk; decide)) only [go_sem, Nat.reduceAdd, Nat.reduceLT, Nat.reduceMul, Nat.reduceLeDiff, Int.reduceToNat, Int.reduceLT, Int.reduceLE, ha0, on_atB hl0, lt_add hl0, lt_at hl0, on_updB hl0, on_atU hl0, on_updU hl0, upd_same ha0, cF5])) (by simp (disch := (apply Apart.mk; decide)) only [go_sem, Nat.reduceAdd, Nat.reduceLT, Nat.reduceMul, Nat.reduceLeDiff, Int.reduceToNat, Int.reduceLT, Int.reduceLE, ha0, on_atB hl0, lt_add hl0, lt_at hl0, on_updB hl0, on_atU hl0, on_updU hl0, upd_same ha0, Try.results64, results_data CT_gives64, resCell, resVal.eq_2, loadOp_sv, cF5]) ⟨rfl, on_nil (h := (h.upd l0 (.cells [.val (.sl (List.map eU r.rest_)), .val (.bool fault)]))) (WF.upd hwf hl0 (by simp (disch := (apply Apart.mk; decide)) only [go_sem, Nat.reduceAdd, Nat.reduceLT, Nat.reduceMul, Nat.reduceLeDiff, Int.reduceToNat, Int.reduceLT, Int.reduceLE, ha0, on_atB hl0, lt_add hl0, lt_at hl0, on_updB hl0, on_atU hl0, on_updU hl0, upd_same ha0]))⟩))
  · refine w_skip ?_
    refine w_n ?_
    refine w_seq ?_
    obtain ⟨nF6, nF7, hr⟩ := hr.cutL
    refine w_region rfl (by simp (disch := (apply Apart.mk; decide)) only [go_sem, Nat.reduceAdd, Nat.reduceLT, Nat.reduceMul, Nat.reduceLeDiff, Int.reduceToNat, Int.reduceLT, Int.reduceLE, ha0, on_atB hl0, lt_add hl0, lt_at hl0, on_updB hl0, on_atU hl0, on_updU hl0, upd_same ha0, nF6, nF7, cF5]; rfl) ?_
    refine w_n ?_
    refine w_seq ?_
    refine w_region rfl (by simp (disch := (apply Apart.mk; decide)) only [go_sem, Nat.reduceAdd, Nat.reduceLT, Nat.reduceMul, Nat.reduceLeDiff, Int.reduceToNat, Int.reduceLT, Int.reduceLE, ha0, on_atB hl0, lt_add hl0, lt_at hl0, on_updB hl0, on_atU hl0, on_updU hl0, upd_same ha0, cF5]; rfl) ?_
    refine w_n ?_
    refine w_ret ?_
    obtain rfl := hD _ hr
    exact (w_endR (To.cut (os' := []) (sl := [(4, .cv (.val (.int .i64 r1.1)))]) (h := (h.upd l0 (.cells [.val (.sl (List.map eU (List.drop (Int.toNat r1.2.1) r.rest_))), .val (.bool fault)]))) (WF.upd hwf hl0 (by simp (disch := (apply Apart.mk; decide)) only [go_sem, Nat.reduceAdd, Nat.reduceLT, Nat.reduceMul, Nat.reduceLeDiff, Int.reduceToNat, Int.reduceLT, Int.reduceLE, ha0, on_atB hl0, lt_add hl0, lt_at hl0, on_updB hl0, on_atU hl0, on_updU hl0, upd_same ha0])) (Nat.le_refl _) (by first | rfl | (simp (disch := (apply Apart.mk; decide)) only [go_sem, Nat.reduceAdd, Nat.reduceLT, Nat.reduceMul, Nat.reduceLeDiff, Int.reduceToNat, Int.reduceLT, Int.reduceLE, ha0, on_atB hl0, lt_add hl0, lt_at hl0, on_updB hl0, on_atU hl0, on_updU hl0, upd_same ha0, cF5]; rfl)) (by simp (disch := (apply Apart.mk; decide)) only [go_sem, Nat.reduceAdd, Nat.reduceLT, Nat.reduceMul, Nat.reduceLeDiff, Int.reduceToNat, Int.reduceLT, Int.reduceLE, ha0, on_atB hl0, lt_add hl0, lt_at hl0, on_updB hl0, on_atU hl0, on_updU hl0, upd_same ha0, cF5])) (by simp (disch := (apply Apart.mk; decide)) only [go_sem, Nat.reduceAdd, Nat.reduceLT, Nat.reduceMul, Nat.reduceLeDiff, Int.reduceToNat, Int.reduceLT, Int.reduceLE, ha0, on_atB hl0, lt_add hl0, lt_at hl0, on_updB hl0, on_atU hl0, on_updU hl0, upd_same ha0, Try.results64, results_data CT_gives64, resCell, resVal.eq_2, loadOp_sv, cF5]) ⟨rfl, on_nil (h := (h.upd l0 (.cells [.val (.sl (List.map eU (List.drop (Int.toNat r1.2.1) r.rest_))), .val (.bool fault)]))) (WF.upd hwf hl0 (by simp (disch := (apply Apart.mk; decide)) only [go_sem, Nat.reduceAdd, Nat.reduceLT, Nat.reduceMul, Nat.reduceLeDiff, Int.reduceToNat, Int.reduceLT, Int.reduceLE, ha0, on_atB hl0, lt_add hl0, lt_at hl0, on_updB hl0, on_atU hl0, on_updU hl0, upd_same ha0]))⟩)
end Go.Val

/- part GW44 -/
/- scansion/darray.Load runs as it is read off. -/
namespace Go.Val
set_option linter.unusedVariables false
set_option linter.unusedSimpArgs false
set_option maxRecDepth 20000
open Go.Proofs
theorem darray_Load_runs (b : List UInt8) {h : Heap} {a : (Option Tdarray_Array × Int)} (e : darray_Load b = some a) :
    Runs CT 44 [.cv (.val (.sl (List.map eU b)))] h fun o h' => match a.1 with | none => o = [.cv (.val (.ptr none)), .cv (.val (.int .i64 a.2))] ∧ h' = h | some y => o = [.cv (.val (.ptr (some (h.n + 3, 0)))), .cv (.val (.int .i64 a.2))] ∧ h' = h.on [none, none, none, some (.cells [.val (.sl (List.map eB y.graph.Final)), .val (.sl (List.map (eL eEdge) y.graph.Edges)), .row 3 (List.map eI y.base), .row 91 (List.map edarray_cell y.cells), .val (.sl (List.map eI y.count))])] := by
  refine Runs.start Try.f44 _ Try.func44 rfl (by rw [Try.ntmps44]; simp) (by rfl) (by rfl) (fun hwf hu => ?_)
  obtain ⟨D, hD, hr⟩ : ∃ D : (Option Tdarray_Array × Int) → Prop, (∀ z, D z → z = a) ∧ Holds (darray_Load b) D := ⟨fun z => z = a, fun _ h => h, Holds.intro e rfl⟩
  dsimp only [darray_Load] at hr
  change wpCode _ _ _ _ _ ⟨[(0, .cv (.val (.sl (List.map eU b))))], h.on []⟩
  refine w_seq ?_
  refine A_region ?_
  refine w_n ?_
  refine w_seq ?_
  refine A_region ?_
  refine w_n ?_
  refine w_seq ?_
  refine A_region ?_
  refine w_n ?_
  refine w_seq ?_
  refine w_seq ?_
  refine A_ops ?_
  refine A_upto 1 ?_
  obtain ⟨r, eF1, hr⟩ := hr.bind
  refine A_call (out := ?o_eF1) (hp := ?p_eF1) ?c_eF1 ?d_eF1 ?_
  case c_eF1 => (refine darray_reader_number_runs (Tdarray_reader.mk b false) (20000 : Int) (h.n + 0) ?_ eF1; (simp (disch := (apply Apart.mk; decide)) only [go_sem, Nat.reduceAdd, Nat.reduceLT, Nat.reduceMul, Nat.reduceLeDiff, Int.reduceToNat, Int.reduceLT, Int.reduceLE]))
  case d_eF1 => rfl
  refine A_ops_end ?_
  refine w_n ?_
  refine w_K (D := D) (fun xX : (List UInt8 × Bool × List Bool × List (List TEdge)) => ⟨[(4, .cv (.val (.ptr (some (h.n + 0, 0))))), (5, .cv (.val (.ptr (some (h.n + 1, 0)))))], h.on [some (.cells [.val (.sl (List.map eU xX.1)), .val (.bool xX.2.1)]), some (.cells [.row 4 (List.map eB xX.2.2.1), .row 35 (List.map (eL eEdge) xX.2.2.2)])]⟩) (fun xX : (List UInt8 × Bool × List Bool × List (List TEdge)) => darray_Load.k1 xX.1 xX.2.1 xX.2.2.1 xX.2.2.2) (fun xX s' hr ht => ?_) ?_
  · obtain ⟨rest_, fault, Final, Edges⟩ := xX
    dsimp only [darray_Load.k1] at hr ht
    refine (w_nT ht ?_)
    refine w_seq ?_
    refine w_toR (.fix _ _ (.cell (h.n + 1) 0) 4 _ (by simp (disch := (apply Apart.mk; decide)) only [go_sem, Nat.reduceAdd, Nat.reduceLT, Nat.reduceMul, Nat.reduceLeDiff, Int.reduceToNat, Int.reduceLT, Int.reduceLE]; rfl) (.refl _)) ?_
    refine w_toR (.fix _ _ (.cell (h.n + 1) 1) 35 _ (by simp (disch := (apply Apart.mk; decide)) only [go_sem, Nat.reduceAdd, Nat.reduceLT, Nat.reduceMul, Nat.reduceLeDiff, Int.reduceToNat, Int.reduceLT, Int.reduceLE]; rfl) (.refl _)) ?_
    refine A_ops ?_
    refine A_upto 1 ?_
    obtain ⟨r1, eF2, hr⟩ := hr.bind
    try dsimp only at hr
    rcases xF9 : r1.1 with _ | y
    · rw [xF9] at hr
      dsimp only at hr
      refine A_call (out := ?o_eF2a) (hp := ?p_eF2a) ?c_eF2a ?d_eF2a ?_
      case c_eF2a => exact darray_Pack_runs_none (TGraph.mk Final Edges) eF2 xF9
      case d_eF2a => rfl
      refine A_ops_end ?_
      refine w_n ?_
      refine w_seq ?_
      refine w_joinR (sj := ⟨[(9, .cv (.val (.ptr none))), (84, .cv (.val (.bool (fault || ((decide ((rest_.length : Int) > (0 : Int))) || (r1.2 != (0 : Int)))))))], h.on []⟩) (A_ops ?_) ?_
      · refine A_upto 5 ?_
        rcases Bool.eq_false_or_eq_true fault with cF3 | cF3
        · refine A_ops_end ?_
          exact w_k (A_cut hwf)
        · refine A_upto 8 ?_
          rcases Bool.eq_false_or_eq_true (decide ((rest_.length : Int) > (0 : Int))) with cF4 | cF4
          · refine A_ops_end ?_
            exact w_k (A_cut hwf)
          · refine A_ops_end ?_
            exact w_k (A_cut hwf)
      refine A_condH hr (fun cF5 hr => ?_) (fun cF5 hr => ?_)
      · refine w_seq ?_
        refine A_region ?_
        refine w_n ?_
        refine w_ret ?_
        obtain rfl := hD _ hr
        exact (w_tr (A_endR (A_cut (os' := []) (sl := [(2, .cv (.val (.ptr none))), (3, .cv (.val (.int .i64 (2 : Int))))]) hwf) ⟨rfl, on_nil hwf⟩))
      · refine w_skip ?_
        refine w_n ?_
        refine w_seq ?_
        refine A_region ?_
        refine w_n ?_
        refine w_ret ?_
        obtain rfl := hD _ hr
        exact (A_endR (A_cut (os' := []) (sl := [(2, .cv (.val (.ptr none))), (3, .cv (.val (.int .i64 (0 : Int))))]) hwf) ⟨rfl, on_nil hwf⟩)
    · rw [xF9] at hr
      dsimp only at hr
      refine A_call (out := ?o_eF2b) (hp := ?p_eF2b) ?c_eF2b ?d_eF2b ?_
      case c_eF2b => exact darray_Pack_runs_some (TGraph.mk Final Edges) eF2 xF9
      case d_eF2b => rfl
      refine A_ops_end ?_
      refine w_n ?_
      refine w_seq ?_
      refine w_joinR (sj := ⟨[(9, .cv (.val (.ptr (some (h.n + 3, 0))))), (84, .cv (.val (.bool (fault || ((decide ((rest_.length : Int) > (0 : Int))) || (r1.2 != (0 : Int)))))))], h.on [none, none, none, some (.cells [.val (.sl (List.map eB y.graph.Final)), .val (.sl (List.map (eL eEdge) y.graph.Edges)), .row 3 (List.map eI y.base), .row 91 (List.map edarray_cell y.cells), .val (.sl (List.map eI y.count))])]⟩) (A_ops ?_) ?_
      · refine A_upto 5 ?_
        rcases Bool.eq_false_or_eq_true fault with cF6 | cF6
        · refine A_ops_end ?_
          exact w_k (A_cut hwf)
        · refine A_upto 8 ?_
          rcases Bool.eq_false_or_eq_true (decide ((rest_.length : Int) > (0 : Int))) with cF7 | cF7
          · refine A_ops_end ?_
            exact w_k (A_cut hwf)
          · refine A_ops_end ?_
            exact w_k (A_cut hwf)
      refine A_condH hr (fun cF8 hr => ?_) (fun cF8 hr => ?_)
      · refine w_seq ?_
        refine A_region ?_
        refine w_n ?_
        refine w_ret ?_
        obtain rfl := hD _ hr
        exact (w_tr (A_endR (A_cut (os' := []) (sl := [(2, .cv (.val (.ptr none))), (3, .cv (.val (.int .i64 (2 : Int))))]) hwf) ⟨rfl, on_nil hwf⟩))
      · refine w_skip ?_
        refine w_n ?_
        refine w_seq ?_
        refine A_region ?_
        refine w_n ?_
        refine w_ret ?_
        obtain rfl := hD _ hr
        exact (w_endR (A_cut (os' := [none, none, none, some (.cells [.val (.sl (List.map eB y.graph.Final)), .val (.sl (List.map (eL eEdge) y.graph.Edges)), .row 3 (List.map eI y.base), .row 91 (List.map edarray_cell y.cells), .val (.sl (List.map eI y.count))])]) (sl := [(2, .cv (.val (.ptr (some (h.n + 3, 0))))), (3, .cv (.val (.int .i64 (0 : Int))))]) hwf) (by simp (disch := (apply Apart.mk; decide)) only [go_sem, Nat.reduceAdd, Nat.reduceLT, Nat.reduceMul, Nat.reduceLeDiff, Int.reduceToNat, Int.reduceLT, Int.reduceLE, Try.results44, results_data CT_gives44, resCell, resVal.eq_2, loadOp_sv, cF8]) ⟨rfl, rfl⟩)
  · refine w_block ?_
    refine w_Loop (fun xX : (Int × List UInt8 × Bool × List Bool × List (List TEdge)) => ⟨[(4, .cv (.val (.ptr (some (h.n + 0, 0))))), (5, .cv (.val (.ptr (some (h.n + 1, 0))))), (15, .cv (.val (.int .i64 r.1))), (16, .cv (.val (.int .i64 xX.1)))], h.on [some (.cells [.val (.sl (List.map eU xX.2.1)), .val (.bool xX.2.2.1)]), some (.cells [.row 4 (List.map eB xX.2.2.2.1), .row 35 (List.map (eL eEdge) xX.2.2.2.2)])]⟩) hr (A_cut hwf) (fun W1 xX hr => ?_)
    obtain ⟨v2, rest_1, fault1, Final1, Edges1⟩ := xX
    dsimp only [darray_Load.b1] at hr
    refine w_seq ?_
    refine A_region ?_
    refine w_n ?_
    refine w_seq ?_
    refine A_condH hr (fun cF10 hr => ?_) (fun cF10 hr => ?_)
    · refine w_skip ?_
      refine w_n ?_
      refine w_seq ?_
      refine w_K (D := (Aft W1 D)) (fun xX : (List UInt8 × Bool × List Bool × List (List TEdge)) => ⟨[(4, .cv (.val (.ptr (some (h.n + 0, 0))))), (5, .cv (.val (.ptr (some (h.n + 1, 0))))), (15, .cv (.val (.int .i64 r.1))), (16, .cv (.val (.int .i64 v2)))], h.on [some (.cells [.val (.sl (List.map eU xX.1)), .val (.bool xX.2.1)]), some (.cells [.row 4 (List.map eB xX.2.2.1), .row 35 (List.map (eL eEdge) xX.2.2.2)])]⟩) (fun xX : (List UInt8 × Bool × List Bool × List (List TEdge)) => darray_Load.k2 v2 xX.1 xX.2.1 xX.2.2.1 xX.2.2.2) (fun xX s' hr ht => ?_) ?_
      · obtain ⟨rest_2, fault2, Final2, Edges2⟩ := xX
        dsimp only [darray_Load.k2] at hr ht
        refine (w_nT ht ?_)
        refine A_region ?_
        exact (w_k ⟨((IntKind.i64.wrap (v2 + (1 : Int))), rest_2, fault2, Final2, Edges2), hr, (A_cut hwf)⟩)
      · refine w_block ?_
        refine w_seq ?_
        refine A_ops ?_
        refine A_upto 1 ?_
        obtain ⟨r2, eF11, hr⟩ := hr.bind
        refine A_call (out := ?o_eF11) (hp := ?p_eF11) ?c_eF11 ?d_eF11 ?_
        case c_eF11 => (refine darray_reader_byte_runs (Tdarray_reader.mk rest_1 fault1) (h.n + 0) ?_ eF11; (simp (disch := (apply Apart.mk; decide)) only [go_sem, Nat.reduceAdd, Nat.reduceLT, Nat.reduceMul, Nat.reduceLeDiff, Int.reduceToNat, Int.reduceLT, Int.reduceLE]))
        case d_eF11 => rfl
        refine A_ops_end ?_
        refine w_n ?_
        refine w_seq ?_
        refine A_region ?_
        refine w_n ?_
        refine w_seq ?_
        refine w_seq ?_
        refine A_ops ?_
        refine A_upto 1 ?_
        obtain ⟨r3, eF12, hr⟩ := hr.bind
        refine A_call (out := ?o_eF12) (hp := ?p_eF12) ?c_eF12 ?d_eF12 ?_
        case c_eF12 => (refine darray_reader_number_runs r2.2 (256 : Int) (h.n + 0) ?_ eF12; (simp (disch := (apply Apart.mk; decide)) only [go_sem, Nat.reduceAdd, Nat.reduceLT, Nat.reduceMul, Nat.reduceLeDiff, Int.reduceToNat, Int.reduceLT, Int.reduceLE]))
        case d_eF12 => rfl
        refine A_ops_end ?_
        refine w_n ?_
        refine w_K (D := (Aft W1 D)) (fun xX : (List TEdge × List UInt8 × Bool) => ⟨[(4, .cv (.val (.ptr (some (h.n + 0, 0))))), (5, .cv (.val (.ptr (some (h.n + 1, 0))))), (6, .cv (.val (.int .u8 (r2.1.toNat : Int)))), (7, .cv (.row 37 (List.map eEdge xX.1))), (15, .cv (.val (.int .i64 r.1))), (16, .cv (.val (.int .i64 v2)))], h.on [some (.cells [.val (.sl (List.map eU xX.2.1)), .val (.bool xX.2.2)]), some (.cells [.row 4 (List.map eB Final1), .row 35 (List.map (eL eEdge) Edges1)])]⟩) (fun xX : (List TEdge × List UInt8 × Bool) => darray_Load.k3 v2 Final1 Edges1 r2 xX.1 xX.2.1 xX.2.2) (fun xX s' hr ht => ?_) ?_
        · obtain ⟨l, rest_3, fault3⟩ := xX
          dsimp only [darray_Load.k3] at hr ht
          refine (w_nT ht ?_)
          refine w_seq ?_
          refine w_joinR (sj := ⟨[(4, .cv (.val (.ptr (some (h.n + 0, 0))))), (5, .cv (.val (.ptr (some (h.n + 1, 0))))), (6, .cv (.val (.int .u8 (r2.1.toNat : Int)))), (7, .cv (.row 37 (List.map eEdge l))), (15, .cv (.val (.int .i64 r.1))), (16, .cv (.val (.int .i64 v2)))], h.on [some (.cells [.val (.sl (List.map eU rest_3)), .val (.bool (fault3 || (decide ((r2.1.toNat : Int) > (1 : Int)))))]), some (.cells [.row 4 (List.map eB Final1), .row 35 (List.map (eL eEdge) Edges1)])]⟩) (A_ops ?_) ?_
          · refine A_upto 6 ?_
            rcases Bool.eq_false_or_eq_true fault3 with cF13 | cF13
            · refine A_ops_end ?_
              exact w_k (A_cut hwf)
            · refine A_ops_end ?_
              exact w_k (A_cut hwf)
          refine w_seq ?_
          refine A_region ?_
          refine w_n ?_
          refine A_condH hr (fun cF14 hr => ?_) (fun cF14 hr => ?_)
          · refine w_seq ?_
            refine A_region ?_
            refine w_n ?_
            refine w_ret ?_
            obtain rfl := hD _ hr
            exact (w_tr (w_br (w_tr (w_tr (w_tr (w_br (w_tr (w_tr (A_endR (A_cut (os' := []) (sl := [(2, .cv (.val (.ptr none))), (3, .cv (.val (.int .i64 (2 : Int))))]) hwf) ⟨rfl, on_nil hwf⟩)))))))))
          · refine w_skip ?_
            refine w_n ?_
            refine w_toR (.fix _ _ (.slot 7) 37 _ (by simp (disch := (apply Apart.mk; decide)) only [go_sem, Nat.reduceAdd, Nat.reduceLT, Nat.reduceMul, Nat.reduceLeDiff, Int.reduceToNat, Int.reduceLT, Int.reduceLE, cF10, cF14]; rfl) (.refl _)) ?_
            refine w_drawn [0, 1, 2, 3, 4, 6, 7, 8, 9, 5, 11, 10, 12, 13, 14] (by rfl) ?_
            obtain ⟨nF15, hr⟩ := hr.room
            obtain ⟨nF16, hr⟩ := hr.room
            refine p_run (l := [0, 1, 2, 3, 4, 6, 7, 8, 9]) (pend' := [9, 8, 7, 6, 4, 3, 2, 1, 0]) (by simp (disch := (apply Apart.mk; decide)) only [go_sem, Nat.reduceAdd, Nat.reduceLT, Nat.reduceMul, Nat.reduceLeDiff, Int.reduceToNat, Int.reduceLT, Int.reduceLE, nF15, nF16]; rfl) rfl ?_
            refine p_op (pend' := [9, 8, 7, 6]) rfl (by simp (disch := (apply Apart.mk; decide)) only [go_sem, Nat.reduceAdd, Nat.reduceLT, Nat.reduceMul, Nat.reduceLeDiff, Int.reduceToNat, Int.reduceLT, Int.reduceLE, nF15, nF16]) (by simp (disch := (apply Apart.mk; decide)) only [go_sem, Nat.reduceAdd, Nat.reduceLT, Nat.reduceMul, Nat.reduceLeDiff, Int.reduceToNat, Int.reduceLT, Int.reduceLE, nF15, nF16]; rfl) (by rfl) ?_
            refine p_run (l := [11]) (pend' := [11, 9, 8, 7, 6]) (by simp (disch := (apply Apart.mk; decide)) only [go_sem, Nat.reduceAdd, Nat.reduceLT, Nat.reduceMul, Nat.reduceLeDiff, Int.reduceToNat, Int.reduceLT, Int.reduceLE, nF15, nF16]; rfl) rfl ?_
            refine p_op (pend' := [11]) rfl (by simp (disch := (apply Apart.mk; decide)) only [go_sem, Nat.reduceAdd, Nat.reduceLT, Nat.reduceMul, Nat.reduceLeDiff, Int.reduceToNat, Int.reduceLT, Int.reduceLE, nF15, nF16]) (by simp (disch := (apply Apart.mk; decide)) only [go_sem, Nat.reduceAdd, Nat.reduceLT, Nat.reduceMul, Nat.reduceLeDiff, Int.reduceToNat, Int.reduceLT, Int.reduceLE, nF15, nF16]; rfl) (by rfl) ?_
            refine p_op (pend' := []) rfl (by simp (disch := (apply Apart.mk; decide)) only [go_sem, Nat.reduceAdd, Nat.reduceLT, Nat.reduceMul, Nat.reduceLeDiff, Int.reduceToNat, Int.reduceLT, Int.reduceLE, nF15, nF16]) (by simp (disch := (apply Apart.mk; decide)) only [go_sem, Nat.reduceAdd, Nat.reduceLT, Nat.reduceMul, Nat.reduceLeDiff, Int.reduceToNat, Int.reduceLT, Int.reduceLE, nF15, nF16]; rfl) (by rfl) ?_
            refine p_run (l := [13]) (pend' := [13]) (by simp (disch := (apply Apart.mk; decide)) only [go_sem, Nat.reduceAdd, Nat.reduceLT, Nat.reduceMul, Nat.reduceLeDiff, Int.reduceToNat, Int.reduceLT, Int.reduceLE, nF15, nF16]; rfl) rfl ?_
            refine p_op (pend' := []) rfl (by simp (disch := (apply Apart.mk; decide)) only [go_sem, Nat.reduceAdd, Nat.reduceLT, Nat.reduceMul, Nat.reduceLeDiff, Int.reduceToNat, Int.reduceLT, Int.reduceLE, nF15, nF16]) (by simp (disch := (apply Apart.mk; decide)) only [go_sem, Nat.reduceAdd, Nat.reduceLT, Nat.reduceMul, Nat.reduceLeDiff, Int.reduceToNat, Int.reduceLT, Int.reduceLE, nF15, nF16]; rfl) (by rfl) ?_
            refine p_end (by simp (disch := (apply Apart.mk; decide)) only [go_sem, Nat.reduceAdd, Nat.reduceLT, Nat.reduceMul, Nat.reduceLeDiff, Int.reduceToNat, Int.reduceLT, Int.reduceLE, nF15, nF16]) ?_
            exact (w_bn (w_k ⟨(rest_3, (fault3 || (decide ((r2.1.toNat : Int) > (1 : Int)))), (Final1 ++ ([((r2.1.toNat : Int) == (1 : Int))])), (Edges1 ++ ([l]))), hr, (A_cut hwf)⟩))
        · refine w_block ?_
          refine w_Loop (fun xX : (List TEdge × Int × List UInt8 × Bool) => ⟨[(4, .cv (.val (.ptr (some (h.n + 0, 0))))), (5, .cv (.val (.ptr (some (h.n + 1, 0))))), (6, .cv (.val (.int .u8 (r2.1.toNat : Int)))), (7, .cv (.row 37 (List.map eEdge xX.1))), (15, .cv (.val (.int .i64 r.1))), (16, .cv (.val (.int .i64 v2))), (21, .cv (.val (.int .i64 r3.1))), (22, .cv (.val (.int .i64 xX.2.1)))], h.on [some (.cells [.val (.sl (List.map eU xX.2.2.1)), .val (.bool xX.2.2.2)]), some (.cells [.row 4 (List.map eB Final1), .row 35 (List.map (eL eEdge) Edges1)])]⟩) hr (A_cut hwf) (fun W2 xX hr => ?_)
          obtain ⟨l1, v3, rest_4, fault5⟩ := xX
          dsimp only [darray_Load.b2] at hr
          refine w_seq ?_
          refine A_region ?_
          refine w_n ?_
          refine w_seq ?_
          refine A_condH hr (fun cF17 hr => ?_) (fun cF17 hr => ?_)
          · refine w_skip ?_
            refine w_n ?_
            refine w_seq ?_
            refine w_block ?_
            refine w_seq ?_
            refine A_ops ?_
            refine A_upto 1 ?_
            obtain ⟨r4, eF18, hr⟩ := hr.bind
            refine A_call (out := ?o_eF18) (hp := ?p_eF18) ?c_eF18 ?d_eF18 ?_
            case c_eF18 => (refine darray_reader_byte_runs (Tdarray_reader.mk rest_4 fault5) (h.n + 0) ?_ eF18; (simp (disch := (apply Apart.mk; decide)) only [go_sem, Nat.reduceAdd, Nat.reduceLT, Nat.reduceMul, Nat.reduceLeDiff, Int.reduceToNat, Int.reduceLT, Int.reduceLE]))
            case d_eF18 => rfl
            refine A_ops_end ?_
            refine w_n ?_
            refine w_seq ?_
            refine A_ops ?_
            refine A_upto 1 ?_
            obtain ⟨r5, eF19, hr⟩ := hr.bind
            refine A_call (out := ?o_eF19) (hp := ?p_eF19) ?c_eF19 ?d_eF19 ?_
            case c_eF19 => (refine darray_reader_number_runs r4.2 (20000 : Int) (h.n + 0) ?_ eF19; (simp (disch := (apply Apart.mk; decide)) only [go_sem, Nat.reduceAdd, Nat.reduceLT, Nat.reduceMul, Nat.reduceLeDiff, Int.reduceToNat, Int.reduceLT, Int.reduceLE]))
            case d_eF19 => rfl
            refine A_ops_end ?_
            refine w_n ?_
            obtain ⟨nF20, hr⟩ := hr.room
            refine A_region ?_
            refine (w_bn (w_n ?_))
            refine A_region ?_
            exact (w_k ⟨((l1 ++ ([(TEdge.mk r4.1 r5.1)])), (IntKind.i64.wrap (v3 + (1 : Int))), r5.2.rest_, r5.2.fault), hr, (A_cut hwf)⟩)
          · refine w_exit ?_
            exact (w_te (w_te (w_bx (w_k ⟨(l1, rest_4, fault5), (hr).map, (A_cut hwf)⟩))))
    · refine w_exit ?_
      exact (w_te (w_te (w_bx (w_k ⟨(rest_1, fault1, Final1, Edges1), (hr).map, (A_cut hwf)⟩))))
theorem darray_Load_runs_none (b : List UInt8) {h : Heap} {a : (Option Tdarray_Array × Int)} (e : darray_Load b = some a) (hx : a.1 = none) :
    Runs CT 44 [.cv (.val (.sl (List.map eU b)))] h fun o h' => o = [.cv (.val (.ptr none)), .cv (.val (.int .i64 a.2))] ∧ h' = h := by
  have := darray_Load_runs (h := h) b e
  rw [hx] at this
  exact this
theorem darray_Load_runs_some (b : List UInt8) {h : Heap} {a : (Option Tdarray_Array × Int)} {y : Tdarray_Array} (e : darray_Load b = some a) (hx : a.1 = some y) :
    Runs CT 44 [.cv (.val (.sl (List.map eU b)))] h fun o h' => o = [.cv (.val (.ptr (some (h.n + 3, 0)))), .cv (.val (.int .i64 a.2))] ∧ h' = h.on [none, none, none, some (.cells [.val (.sl (List.map eB y.graph.Final)), .val (.sl (List.map (eL eEdge) y.graph.Edges)), .row 3 (List.map eI y.base), .row 91 (List.map edarray_cell y.cells), .val (.sl (List.map eI y.count))])] := by
  have := darray_Load_runs (h := h) b e
  rw [hx] at this
  exact this
end Go.Val

/- part GW56 -/
/- scansion/scansionref18.edges runs as it is read off. -/
namespace Go.Val
set_option linter.unusedVariables false
set_option linter.unusedSimpArgs false
set_option maxRecDepth 20000
open Go.Proofs
theorem scansionref18_edges_runs (g : TGraph) {h : Heap} {a : Int} (e : scansionref18_edges g = some a) :
    Runs CT 56 [.cv (.val (.agg [.sl (List.map eB g.Final), .sl (List.map (eL eEdge) g.Edges)]))] h fun o h' => o = [.cv (.val (.int .i64 a))] ∧ h' = h := by
  refine Runs.start Try.f56 _ Try.func56 rfl (by rw [Try.ntmps56]; simp) (by rfl) (by rfl) (fun hwf hu => ?_)
  obtain ⟨D, hD, hr⟩ : ∃ D : Int → Prop, (∀ z, D z → z = a) ∧ Holds (scansionref18_edges g) D := ⟨fun z => z = a, fun _ h => h, Holds.intro e rfl⟩
  dsimp only [scansionref18_edges] at hr
  change wpCode _ _ _ _ _ ⟨[(0, .cv (.val (.agg [.sl (List.map eB g.Final), .sl (List.map (eL eEdge) g.Edges)])))], h.on []⟩
  refine w_seq ?_
  refine A_region ?_
  refine w_n ?_
  refine w_seq ?_
  refine A_region ?_
  refine w_n ?_
  refine w_seq ?_
  refine w_seq ?_
  refine A_region ?_
  refine w_n ?_
  refine w_K (D := D) (fun xX : Int => ⟨[(3, .cv (.val (.int .i64 xX)))], h.on []⟩) (fun xX : Int => scansionref18_edges.k1 xX) (fun xX s' hr ht => ?_) ?_
  · obtain ⟨n, rfl⟩ : ∃ z, z = xX := ⟨xX, rfl⟩
    dsimp only [scansionref18_edges.k1] at hr ht
    refine (w_nT ht ?_)
    refine w_seq ?_
    refine A_region ?_
    refine w_n ?_
    refine w_ret ?_
    obtain rfl := hD _ hr
    exact (A_endR (A_cut (os' := []) (sl := [(2, .cv (.val (.int .i64 n)))]) hwf) ⟨rfl, on_nil hwf⟩)
  · refine w_block ?_
    refine w_Loop (fun xX : (Int × Int) => ⟨[(1, .cv (.val (.ptr (some (h.n + 0, 0))))), (3, .cv (.val (.int .i64 xX.1))), (4, .cv (.val (.int .i64 xX.2)))], h.on [some (.cells [.val (.sl (List.map eB g.Final)), .val (.sl (List.map (eL eEdge) g.Edges))])]⟩) hr (A_cut hwf) (fun W1 xX hr => ?_)
    obtain ⟨n1, s⟩ := xX
    dsimp only [scansionref18_edges.b1] at hr
    refine w_seq ?_
    refine w_seq ?_
    refine A_region ?_
    refine w_n ?_
    refine A_condH hr (fun cF1 hr => ?_) (fun cF1 hr => ?_)
    · refine w_skip ?_
      refine w_n ?_
      refine w_seq ?_
      refine w_block ?_
      obtain ⟨xs, nF2, eF3, gF4, hr⟩ := hr.idx
      refine A_region ?_
      refine (w_bn (w_n ?_))
      refine A_region ?_
      exact (w_k ⟨((IntKind.i64.wrap (n1 + (xs.length : Int))), (IntKind.i64.wrap (s + (1 : Int)))), hr, (A_cut hwf)⟩)
    · refine w_exit ?_
      exact (w_te (w_te (w_bx (w_k ⟨n1, (hr).map, (A_cut hwf)⟩))))
end Go.Val

/- part GW57 -/
/- scansion/scansionref18.free runs as it is read off. -/
namespace Go.Val
set_option linter.unusedVariables false
set_option linter.unusedSimpArgs false
set_option maxRecDepth 20000
open Go.Proofs
theorem scansionref18_free_runs (cells : List Bool) (l : List TEdge) (base : Int) {h : Heap} {a : Bool} (e : scansionref18_free cells l base = some a) :
    Runs CT 57 [.cv (.val (.sl (List.map eB cells))), .cv (.val (.sl (List.map eEdge l))), .cv (.val (.int .i64 base))] h fun o h' => o = [.cv (.val (.bool a))] ∧ h' = h := by
  refine Runs.start Try.f57 _ Try.func57 rfl (by rw [Try.ntmps57]; simp) (by rfl) (by rfl) (fun hwf hu => ?_)
  obtain ⟨D, hD, hr⟩ : ∃ D : Bool → Prop, (∀ z, D z → z = a) ∧ Holds (scansionref18_free cells l base) D := ⟨fun z => z = a, fun _ h => h, Holds.intro e rfl⟩
  dsimp only [scansionref18_free] at hr
  change wpCode _ _ _ _ _ ⟨[(0, .cv (.val (.sl (List.map eB cells)))), (1, .cv (.val (.sl (List.map eEdge l)))), (2, .cv (.val (.int .i64 base)))], h.on []⟩
  refine w_seq ?_
  refine A_region ?_
  refine w_n ?_
  refine w_seq ?_
  refine w_seq ?_
  refine A_region ?_
  refine w_n ?_
  refine w_K (D := D) (fun xX : Unit => ⟨[], h.on []⟩) (fun xX : Unit => scansionref18_free.k1) (fun xX s' hr ht => ?_) ?_
  · dsimp only [scansionref18_free.k1] at hr ht
    refine (w_nT ht ?_)
    refine w_seq ?_
    refine A_region ?_
    refine w_n ?_
    refine w_ret ?_
    obtain rfl := hD _ hr
    exact (A_endR (A_cut (os' := []) (sl := [(6, .cv (.val (.bool true)))]) hwf) ⟨rfl, on_nil hwf⟩)
  · refine w_block ?_
    refine w_Loop (fun xX : Int => ⟨[(0, .cv (.val (.sl (List.map eB cells)))), (1, .cv (.val (.sl (List.map eEdge l)))), (2, .cv (.val (.int .i64 base))), (7, .cv (.val (.int .i64 xX)))], h.on []⟩) hr (A_cut hwf) (fun W1 xX hr => ?_)
    obtain ⟨k, rfl⟩ : ∃ z, z = xX := ⟨xX, rfl⟩
    dsimp only [scansionref18_free.b1] at hr
    refine w_seq ?_
    refine w_seq ?_
    refine A_region ?_
    refine w_n ?_
    refine A_condH hr (fun cF1 hr => ?_) (fun cF1 hr => ?_)
    · refine w_skip ?_
      refine w_n ?_
      refine w_seq ?_
      refine w_block ?_
      refine w_seq ?_
      obtain ⟨x, nF2, eF3, gF4, hr⟩ := hr.idx
      refine A_region ?_
      refine w_n ?_
      obtain ⟨v, vF9, hr⟩ := hr.bind
      refine w_joinR (sj := ⟨[(0, .cv (.val (.sl (List.map eB cells)))), (1, .cv (.val (.sl (List.map eEdge l)))), (2, .cv (.val (.int .i64 base))), (7, .cv (.val (.int .i64 k))), (32, .cv (.val (.bool v)))], h.on []⟩) (A_ops ?_) ?_
      · have hr := Holds.intro (D := fun z => z = v) vF9 rfl
        refine A_upto 5 ?_
        rcases hr.ite with ⟨cF5, hr⟩ | ⟨cF5, hr⟩
        · obtain ⟨b, nF6, eF7, gF8, hr⟩ := hr.idx
          refine A_ops_end ?_
          obtain rfl : _ = v := hr
          exact w_k (A_cut hwf)
        · refine A_ops_end ?_
          obtain rfl : _ = v := hr
          exact w_k (A_cut hwf)
      refine A_condH hr (fun cF10 hr => ?_) (fun cF10 hr => ?_)
      · refine w_seq ?_
        refine A_region ?_
        refine w_n ?_
        refine w_ret ?_
        obtain rfl := hD _ hr
        exact (w_br (w_tr (w_tr (w_br (w_tr (w_tr (A_endR (A_cut (os' := []) (sl := [(6, .cv (.val (.bool false)))]) hwf) ⟨rfl, on_nil hwf⟩)))))))
      · refine w_skip ?_
        refine (w_bn (w_n ?_))
        refine A_region ?_
        exact (w_k ⟨(IntKind.i64.wrap (k + (1 : Int))), hr, (A_cut hwf)⟩)
    · refine w_exit ?_
      exact (w_te (w_te (w_bx (w_k ⟨(), (hr).map, (A_cut hwf)⟩))))
end Go.Val

/- part GW40 -/
/- scansion/scansionref18.Pack runs as it is read off. -/
namespace Go.Val
set_option linter.unusedVariables false
set_option linter.unusedSimpArgs false
set_option maxRecDepth 20000
open Go.Proofs
theorem scansionref18_Pack_runs (g : TGraph) {h : Heap} {a : (Option Tscansionref18_Array × Int)} (e : scansionref18_Pack g = some a) :
    Runs CT 40 [.cv (.val (.agg [.sl (List.map eB g.Final), .sl (List.map (eL eEdge) g.Edges)]))] h fun o h' => match a.1 with | none => o = [.cv (.val (.ptr none)), .cv (.val (.int .i64 a.2))] ∧ h' = h | some y => o = [.cv (.val (.ptr (some (h.n + 1, 0)))), .cv (.val (.int .i64 a.2))] ∧ h' = h.on [none, some (.cells [.val (.sl (List.map eB y.G.Final)), .val (.sl (List.map (eL eEdge) y.G.Edges)), .val (.int .i64 y.Cells)])] := by
  refine Runs.start Try.f40 _ Try.func40 rfl (by rw [Try.ntmps40]; simp) (by rfl) (by rfl) (fun hwf hu => ?_)
  obtain ⟨D, hD, hr⟩ : ∃ D : (Option Tscansionref18_Array × Int) → Prop, (∀ z, D z → z = a) ∧ Holds (scansionref18_Pack g) D := ⟨fun z => z = a, fun _ h => h, Holds.intro e rfl⟩
  dsimp only [scansionref18_Pack] at hr
  change wpCode _ _ _ _ _ ⟨[(0, .cv (.val (.agg [.sl (List.map eB g.Final), .sl (List.map (eL eEdge) g.Edges)])))], h.on []⟩
  refine w_seq ?_
  refine A_region ?_
  refine w_n ?_
  refine w_seq ?_
  refine A_ops ?_
  refine A_upto 1 ?_
  obtain ⟨r, eF1, hr⟩ := hr.bind
  refine A_call (out := ?o_eF1) (hp := ?p_eF1) ?c_eF1 ?d_eF1 ?_
  case c_eF1 => exact scansionref17_Right_runs g eF1
  case d_eF1 => rfl
  refine A_ops_end ?_
  refine w_n ?_
  refine w_seq ?_
  refine w_seq ?_
  refine A_region ?_
  refine w_n ?_
  refine A_condH hr (fun cF2 hr => ?_) (fun cF2 hr => ?_)
  · refine w_seq ?_
    refine A_region ?_
    refine w_n ?_
    refine w_ret ?_
    obtain rfl := hD _ hr
    exact (w_tr (A_endR (A_cut (os' := []) (sl := [(2, .cv (.val (.ptr none))), (3, .cv (.val (.int .i64 (1 : Int))))]) hwf) ⟨rfl, on_nil hwf⟩))
  · refine w_skip ?_
    refine w_n ?_
    refine w_seq ?_
    obtain ⟨v, vF5, hr⟩ := hr.bind
    refine w_joinR (sj := ⟨[(1, .cv (.val (.ptr (some (h.n + 0, 0))))), (22, .cv (.val (.bool v)))], h.on [some (.cells [.val (.sl (List.map eB g.Final)), .val (.sl (List.map (eL eEdge) g.Edges))])]⟩) (A_ops ?_) ?_
    · have hr := Holds.intro (D := fun z => z = v) vF5 rfl
      refine A_upto 5 ?_
      rcases hr.ite with ⟨cF3, hr⟩ | ⟨cF3, hr⟩
      · refine A_upto 1 ?_
        refine A_off ?_
        refine A_ops_end ?_
        obtain rfl : _ = v := hr
        exact w_k (A_cut hwf)
      · refine A_upto 1 ?_
        obtain ⟨r1, eF4, hr⟩ := hr.bind
        refine w_call' (out := ?o_eF4) (hp := ?p_eF4) (by simp (disch := (apply Apart.mk; decide)) only [go_sem, Nat.reduceAdd, Nat.reduceLT, Nat.reduceMul, Nat.reduceLeDiff, Int.reduceToNat, Int.reduceLT, Int.reduceLE, Option.getD_some, cF3]) (by simp (disch := (apply Apart.mk; decide)) only [go_sem, Nat.reduceAdd, Nat.reduceLT, Nat.reduceMul, Nat.reduceLeDiff, Int.reduceToNat, Int.reduceLT, Int.reduceLE, Option.getD_some, cF3]; rfl) (by simp (disch := (apply Apart.mk; decide)) only [go_sem, Nat.reduceAdd, Nat.reduceLT, Nat.reduceMul, Nat.reduceLeDiff, Int.reduceToNat, Int.reduceLT, Int.reduceLE, Option.getD_some, cF3]; rfl) (by simp (disch := (apply Apart.mk; decide)) only [go_sem, Nat.reduceAdd, Nat.reduceLT, Nat.reduceMul, Nat.reduceLeDiff, Int.reduceToNat, Int.reduceLT, Int.reduceLE, Option.getD_some, cF3]; rfl) ?c_eF4 ?d_eF4 ?_
        case c_eF4 => exact scansionref18_edges_runs g eF4
        case d_eF4 => rfl
        refine A_ops_end ?_
        obtain rfl : _ = v := hr
        exact w_k (A_cut hwf)
    refine A_condH hr (fun cF6 hr => ?_) (fun cF6 hr => ?_)
    · refine w_seq ?_
      refine A_region ?_
      refine w_n ?_
      refine w_ret ?_
      obtain rfl := hD _ hr
      exact (w_tr (A_endR (A_cut (os' := []) (sl := [(2, .cv (.val (.ptr none))), (3, .cv (.val (.int .i64 (3 : Int))))]) hwf) ⟨rfl, on_nil hwf⟩))
    · refine w_skip ?_
      refine w_n ?_
      refine w_seq ?_
      refine A_region ?_
      refine w_n ?_
      refine w_seq ?_
      refine w_seq ?_
      refine A_region ?_
      refine w_n ?_
      refine w_K (D := D) (fun xX : List Bool => ⟨[(1, .cv (.val (.ptr (some (h.n + 0, 0))))), (5, .cv (.row 4 (List.map eB xX)))], h.on [some (.cells [.val (.sl (List.map eB g.Final)), .val (.sl (List.map (eL eEdge) g.Edges))])]⟩) (fun xX : List Bool => scansionref18_Pack.k1 g xX) (fun xX s' hr ht => ?_) ?_
      · obtain ⟨cells, rfl⟩ : ∃ z, z = xX := ⟨xX, rfl⟩
        dsimp only [scansionref18_Pack.k1] at hr ht
        refine (w_nT ht ?_)
        refine w_seq ?_
        refine A_region ?_
        refine w_n ?_
        refine w_ret ?_
        obtain rfl := hD _ hr
        exact (w_endR (A_cut (os' := [none, some (.cells [.val (.sl (List.map eB g.Final)), .val (.sl (List.map (eL eEdge) g.Edges)), .val (.int .i64 (cells.length : Int))])]) (sl := [(2, .cv (.val (.ptr (some (h.n + 1, 0))))), (3, .cv (.val (.int .i64 (0 : Int))))]) hwf) (by simp (disch := (apply Apart.mk; decide)) only [go_sem, Nat.reduceAdd, Nat.reduceLT, Nat.reduceMul, Nat.reduceLeDiff, Int.reduceToNat, Int.reduceLT, Int.reduceLE, Try.results40, results_data CT_gives40, resCell, resVal.eq_2, loadOp_sv, cF2, cF6]) ⟨rfl, rfl⟩)
      · refine w_block ?_
        refine w_Loop (fun xX : (List Bool × Int) => ⟨[(1, .cv (.val (.ptr (some (h.n + 0, 0))))), (5, .cv (.row 4 (List.map eB xX.1))), (6, .cv (.val (.int .i64 xX.2)))], h.on [some (.cells [.val (.sl (List.map eB g.Final)), .val (.sl (List.map (eL eEdge) g.Edges))])]⟩) hr (A_cut hwf) (fun W1 xX hr => ?_)
        obtain ⟨cells1, s⟩ := xX
        dsimp only [scansionref18_Pack.b1] at hr
        refine w_seq ?_
        refine w_seq ?_
        refine A_region ?_
        refine w_n ?_
        refine A_condH hr (fun cF7 hr => ?_) (fun cF7 hr => ?_)
        · refine w_skip ?_
          refine w_n ?_
          refine w_seq ?_
          refine w_K (D := (Aft W1 D)) (fun xX : List Bool => ⟨[(1, .cv (.val (.ptr (some (h.n + 0, 0))))), (5, .cv (.row 4 (List.map eB xX))), (6, .cv (.val (.int .i64 s)))], h.on [some (.cells [.val (.sl (List.map eB g.Final)), .val (.sl (List.map (eL eEdge) g.Edges))])]⟩) (fun xX : List Bool => scansionref18_Pack.k2 s xX) (fun xX s' hr ht => ?_) ?_
          · obtain ⟨cells2, rfl⟩ : ∃ z, z = xX := ⟨xX, rfl⟩
            dsimp only [scansionref18_Pack.k2] at hr ht
            refine (w_nT ht ?_)
            refine A_region ?_
            exact (w_k ⟨(cells2, (IntKind.i64.wrap (s + (1 : Int)))), hr, (A_cut hwf)⟩)
          · refine w_block ?_
            refine w_seq ?_
            refine A_region ?_
            refine w_n ?_
            refine w_seq ?_
            refine w_K (D := (Aft W1 D)) (fun xX : Int => ⟨[(1, .cv (.val (.ptr (some (h.n + 0, 0))))), (5, .cv (.row 4 (List.map eB cells1))), (6, .cv (.val (.int .i64 s))), (7, .cv (.val (.int .i64 xX)))], h.on [some (.cells [.val (.sl (List.map eB g.Final)), .val (.sl (List.map (eL eEdge) g.Edges))])]⟩) (fun xX : Int => scansionref18_Pack.k3 g cells1 s xX) (fun xX s' hr ht => ?_) ?_
            · obtain ⟨base, rfl⟩ : ∃ z, z = xX := ⟨xX, rfl⟩
              dsimp only [scansionref18_Pack.k3] at hr ht
              refine (w_nT ht ?_)
              refine w_seq ?_
              refine w_seq ?_
              refine A_region ?_
              refine w_n ?_
              refine w_K (D := (Aft W1 D)) (fun xX : List Bool => ⟨[(1, .cv (.val (.ptr (some (h.n + 0, 0))))), (5, .cv (.row 4 (List.map eB xX))), (6, .cv (.val (.int .i64 s)))], h.on [some (.cells [.val (.sl (List.map eB g.Final)), .val (.sl (List.map (eL eEdge) g.Edges))])]⟩) (fun xX : List Bool => scansionref18_Pack.k4 s xX) (fun xX s' hr ht => ?_) ?_
              · obtain ⟨cells3, rfl⟩ : ∃ z, z = xX := ⟨xX, rfl⟩
                dsimp only [scansionref18_Pack.k4] at hr ht
                refine (w_nT ht ?_)
                refine w_seq ?_
                refine A_region ?_
                refine w_n ?_
                refine A_condH hr (fun cF8 hr => ?_) (fun cF8 hr => ?_)
                · refine w_seq ?_
                  refine A_region ?_
                  refine w_n ?_
                  refine w_ret ?_
                  obtain rfl := hD _ hr
                  exact (w_br (w_tr (w_tr (w_tr (w_br (w_tr (w_tr (A_endR (A_cut (os' := []) (sl := [(2, .cv (.val (.ptr none))), (3, .cv (.val (.int .i64 (3 : Int))))]) hwf) ⟨rfl, on_nil hwf⟩))))))))
                · refine w_skip ?_
                  exact (w_bn (w_k ⟨cells3, hr, (A_cut hwf)⟩))
              · refine w_block ?_
                refine w_Loop (fun xX : (List Bool × Int) => ⟨[(1, .cv (.val (.ptr (some (h.n + 0, 0))))), (5, .cv (.row 4 (List.map eB xX.1))), (6, .cv (.val (.int .i64 s))), (7, .cv (.val (.int .i64 base))), (8, .cv (.val (.int .i64 xX.2)))], h.on [some (.cells [.val (.sl (List.map eB g.Final)), .val (.sl (List.map (eL eEdge) g.Edges))])]⟩) hr (A_cut hwf) (fun W2 xX hr => ?_)
                obtain ⟨cells4, k⟩ := xX
                dsimp only [scansionref18_Pack.b2] at hr
                refine w_seq ?_
                refine w_seq ?_
                obtain ⟨xs, nF9, eF10, gF11, hr⟩ := hr.idx
                refine A_region ?_
                refine w_n ?_
                refine A_condH hr (fun cF12 hr => ?_) (fun cF12 hr => ?_)
                · refine w_skip ?_
                  refine w_n ?_
                  refine w_seq ?_
                  refine w_K (D := (Aft W2 (Aft W1 D))) (fun xX : List Bool => ⟨[(1, .cv (.val (.ptr (some (h.n + 0, 0))))), (5, .cv (.row 4 (List.map eB xX))), (6, .cv (.val (.int .i64 s))), (7, .cv (.val (.int .i64 base))), (8, .cv (.val (.int .i64 k)))], h.on [some (.cells [.val (.sl (List.map eB g.Final)), .val (.sl (List.map (eL eEdge) g.Edges))])]⟩) (fun xX : List Bool => scansionref18_Pack.k5 k xX) (fun xX s' hr ht => ?_) ?_
                  · obtain ⟨cells5, rfl⟩ : ∃ z, z = xX := ⟨xX, rfl⟩
                    dsimp only [scansionref18_Pack.k5] at hr ht
                    refine (w_nT ht ?_)
                    refine A_region ?_
                    exact (w_k ⟨(cells5, (IntKind.i64.wrap (k + (1 : Int)))), hr, (A_cut hwf)⟩)
                  · refine w_block ?_
                    refine w_seq ?_
                    obtain ⟨x, nF13, eF14, gF15, hr⟩ := hr.idx
                    refine A_region ?_
                    refine w_n ?_
                    refine w_seq ?_
                    refine w_K (D := (Aft W2 (Aft W1 D))) (fun xX : List Bool => ⟨[(1, .cv (.val (.ptr (some (h.n + 0, 0))))), (5, .cv (.row 4 (List.map eB xX))), (6, .cv (.val (.int .i64 s))), (7, .cv (.val (.int .i64 base))), (8, .cv (.val (.int .i64 k))), (9, .cv (.val (.int .i64 (IntKind.i64.wrap (base + (IntKind.i64.wrap (x.Label.toNat : Int)))))))], h.on [some (.cells [.val (.sl (List.map eB g.Final)), .val (.sl (List.map (eL eEdge) g.Edges))])]⟩) (fun xX : List Bool => scansionref18_Pack.k6 base k x xX) (fun xX s' hr ht => ?_) ?_
                    · obtain ⟨cells6, rfl⟩ : ∃ z, z = xX := ⟨xX, rfl⟩
                      dsimp only [scansionref18_Pack.k6] at hr ht
                      refine (w_nT ht ?_)
                      obtain ⟨b, nF16, eF17, gF18, hr⟩ := hr.idx
                      refine A_region ?_
                      exact (w_bn (w_k ⟨(List.set cells6 (Int.toNat (IntKind.i64.wrap (base + (IntKind.i64.wrap (x.Label.toNat : Int))))) true), hr, (A_cut hwf)⟩))
                    · refine w_block ?_
                      refine w_Loop (fun xX : List Bool => ⟨[(1, .cv (.val (.ptr (some (h.n + 0, 0))))), (5, .cv (.row 4 (List.map eB xX))), (6, .cv (.val (.int .i64 s))), (7, .cv (.val (.int .i64 base))), (8, .cv (.val (.int .i64 k))), (9, .cv (.val (.int .i64 (IntKind.i64.wrap (base + (IntKind.i64.wrap (x.Label.toNat : Int)))))))], h.on [some (.cells [.val (.sl (List.map eB g.Final)), .val (.sl (List.map (eL eEdge) g.Edges))])]⟩) hr (A_cut hwf) (fun W3 xX hr => ?_)
                      obtain ⟨cells7, rfl⟩ : ∃ z, z = xX := ⟨xX, rfl⟩
                      dsimp only [scansionref18_Pack.b3] at hr
                      refine w_seq ?_
                      refine w_seq ?_
                      refine A_region ?_
                      refine w_n ?_
                      refine A_condH hr (fun cF19 hr => ?_) (fun cF19 hr => ?_)
                      · refine w_skip ?_
                        refine w_n ?_
                        refine w_block ?_
                        obtain ⟨nF20, hr⟩ := hr.room
                        refine A_region ?_
                        exact (w_bn (w_k ⟨(cells7 ++ ([false])), hr, (A_cut hwf)⟩))
                      · refine w_exit ?_
                        exact (w_te (w_te (w_bx (w_k ⟨cells7, (hr).map, (A_cut hwf)⟩))))
                · refine w_exit ?_
                  exact (w_te (w_te (w_bx (w_k ⟨cells4, (hr).map, (A_cut hwf)⟩))))
            · refine w_block ?_
              refine w_Loop (fun xX : Int => ⟨[(1, .cv (.val (.ptr (some (h.n + 0, 0))))), (5, .cv (.row 4 (List.map eB cells1))), (6, .cv (.val (.int .i64 s))), (7, .cv (.val (.int .i64 xX)))], h.on [some (.cells [.val (.sl (List.map eB g.Final)), .val (.sl (List.map (eL eEdge) g.Edges))])]⟩) hr (A_cut hwf) (fun W4 xX hr => ?_)
              obtain ⟨base1, rfl⟩ : ∃ z, z = xX := ⟨xX, rfl⟩
              dsimp only [scansionref18_Pack.b4] at hr
              refine w_seq ?_
              obtain ⟨v1, vF26, hr⟩ := hr.bind
              refine w_joinR (sj := ⟨[(1, .cv (.val (.ptr (some (h.n + 0, 0))))), (5, .cv (.row 4 (List.map eB cells1))), (6, .cv (.val (.int .i64 s))), (7, .cv (.val (.int .i64 base1))), (47, .cv (.val (.bool v1)))], h.on [some (.cells [.val (.sl (List.map eB g.Final)), .val (.sl (List.map (eL eEdge) g.Edges))])]⟩) (A_ops ?_) ?_
              · have hr := Holds.intro (D := fun z => z = v1) vF26 rfl
                obtain ⟨xs1, nF21, eF22, gF23, hr⟩ := hr.idx
                refine A_upto 8 ?_
                rcases hr.ite with ⟨cF24, hr⟩ | ⟨cF24, hr⟩
                · refine A_upto 7 ?_
                  obtain ⟨r2, eF25, hr⟩ := hr.bind
                  refine w_lend (out := ?o_LeF25) (hp := ?p_LeF25) (by simp (disch := (apply Apart.mk; decide)) only [go_sem, Nat.reduceAdd, Nat.reduceLT, Nat.reduceMul, Nat.reduceLeDiff, Int.reduceToNat, Int.reduceLT, Int.reduceLE, Option.getD_some, nF21, eF22, gF23, cF24, nF21, eF22, gF23]) (by simp (disch := (apply Apart.mk; decide)) only [go_sem, Nat.reduceAdd, Nat.reduceLT, Nat.reduceMul, Nat.reduceLeDiff, Int.reduceToNat, Int.reduceLT, Int.reduceLE, Option.getD_some, nF21, eF22, gF23, cF24, nF21, eF22, gF23]; rfl) (by simp (disch := (apply Apart.mk; decide)) only [go_sem, Nat.reduceAdd, Nat.reduceLT, Nat.reduceMul, Nat.reduceLeDiff, Int.reduceToNat, Int.reduceLT, Int.reduceLE, Option.getD_some, nF21, eF22, gF23, cF24, nF21, eF22, gF23]; rfl) ?c_LeF25 ?d_LeF25 ?f_LeF25 ?_
                  case c_LeF25 => exact scansionref18_free_runs cells1 xs1 base1 eF25
                  case d_LeF25 => rfl
                  case f_LeF25 => rfl
                  refine A_ops_end ?_
                  obtain rfl : _ = v1 := hr
                  exact w_k (A_cut hwf)
                · refine A_upto 7 ?_
                  refine A_off ?_
                  refine A_ops_end ?_
                  obtain rfl : _ = v1 := hr
                  exact w_k (A_cut hwf)
              refine A_condH hr (fun cF27 hr => ?_) (fun cF27 hr => ?_)
              · refine w_skip ?_
                refine w_n ?_
                refine w_block ?_
                refine A_region ?_
                exact (w_bn (w_k ⟨(IntKind.i64.wrap (base1 + (1 : Int))), hr, (A_cut hwf)⟩))
              · refine w_exit ?_
                exact (w_te (w_te (w_bx (w_k ⟨base1, (hr).map, (A_cut hwf)⟩))))
        · refine w_exit ?_
          exact (w_te (w_te (w_bx (w_k ⟨cells1, (hr).map, (A_cut hwf)⟩))))
theorem scansionref18_Pack_runs_none (g : TGraph) {h : Heap} {a : (Option Tscansionref18_Array × Int)} (e : scansionref18_Pack g = some a) (hx : a.1 = none) :
    Runs CT 40 [.cv (.val (.agg [.sl (List.map eB g.Final), .sl (List.map (eL eEdge) g.Edges)]))] h fun o h' => o = [.cv (.val (.ptr none)), .cv (.val (.int .i64 a.2))] ∧ h' = h := by
  have := scansionref18_Pack_runs (h := h) g e
  rw [hx] at this
  exact this
theorem scansionref18_Pack_runs_some (g : TGraph) {h : Heap} {a : (Option Tscansionref18_Array × Int)} {y : Tscansionref18_Array} (e : scansionref18_Pack g = some a) (hx : a.1 = some y) :
    Runs CT 40 [.cv (.val (.agg [.sl (List.map eB g.Final), .sl (List.map (eL eEdge) g.Edges)]))] h fun o h' => o = [.cv (.val (.ptr (some (h.n + 1, 0)))), .cv (.val (.int .i64 a.2))] ∧ h' = h.on [none, some (.cells [.val (.sl (List.map eB y.G.Final)), .val (.sl (List.map (eL eEdge) y.G.Edges)), .val (.int .i64 y.Cells)])] := by
  have := scansionref18_Pack_runs (h := h) g e
  rw [hx] at this
  exact this
end Go.Val

/- part GW67 -/
/- scansion/scansionref14.Told runs as it is read off. -/
namespace Go.Val
set_option linter.unusedVariables false
set_option linter.unusedSimpArgs false
set_option maxRecDepth 20000
open Go.Proofs
theorem scansionref14_Told_runs (b : List UInt8) {h : Heap} {a : (Int × Int × Int)} (e : scansionref14_Told b = some a) :
    Runs CT 67 [.cv (.val (.sl (List.map eU b)))] h fun o h' => o = [.cv (.val (.int .i64 a.1)), .cv (.val (.int .i64 a.2.1)), .cv (.val (.int .i64 a.2.2))] ∧ h' = h := by
  refine Runs.start Try.f67 _ Try.func67 rfl (by rw [Try.ntmps67]; simp) (by rfl) (by rfl) (fun hwf hu => ?_)
  obtain ⟨D, hD, hr⟩ : ∃ D : (Int × Int × Int) → Prop, (∀ z, D z → z = a) ∧ Holds (scansionref14_Told b) D := ⟨fun z => z = a, fun _ h => h, Holds.intro e rfl⟩
  dsimp only [scansionref14_Told] at hr
  change wpCode _ _ _ _ _ ⟨[(0, .cv (.val (.sl (List.map eU b))))], h.on []⟩
  refine w_seq ?_
  refine A_region ?_
  refine w_n ?_
  refine w_seq ?_
  refine A_region ?_
  refine w_n ?_
  refine w_seq ?_
  refine A_region ?_
  refine w_n ?_
  refine w_seq ?_
  refine w_seq ?_
  refine A_region ?_
  refine w_n ?_
  refine w_K (D := D) (fun xX : Unit => ⟨[], h.on []⟩) (fun xX : Unit => scansionref14_Told.k1) (fun xX s' hr ht => ?_) ?_
  · dsimp only [scansionref14_Told.k1] at hr ht
    refine (w_nT ht ?_)
    refine w_seq ?_
    refine A_region ?_
    refine w_n ?_
    refine w_ret ?_
    obtain rfl := hD _ hr
    exact (A_endR (A_cut (os' := []) (sl := [(2, .cv (.val (.int .i64 (0 : Int)))), (3, .cv (.val (.int .i64 (0 : Int)))), (4, .cv (.val (.int .i64 (2 : Int))))]) hwf) ⟨rfl, on_nil hwf⟩)
  · refine w_block ?_
    refine w_Loop (fun xX : (Int × Int × Int) => ⟨[(0, .cv (.val (.sl (List.map eU b)))), (5, .cv (.val (.int .i64 xX.1))), (6, .cv (.val (.int .i64 xX.2.1))), (7, .cv (.val (.int .i64 xX.2.2)))], h.on []⟩) hr (A_cut hwf) (fun W1 xX hr => ?_)
    obtain ⟨n, weight, i⟩ := xX
    dsimp only [scansionref14_Told.b1] at hr
    refine w_seq ?_
    refine w_joinR (sj := ⟨[(0, .cv (.val (.sl (List.map eU b)))), (5, .cv (.val (.int .i64 n))), (6, .cv (.val (.int .i64 weight))), (7, .cv (.val (.int .i64 i))), (15, .cv (.val (.bool ((decide (i < (b.length : Int))) && (decide (i < (5 : Int)))))))], h.on []⟩) (A_ops ?_) ?_
    · refine A_upto 5 ?_
      rcases Bool.eq_false_or_eq_true (decide (i < (b.length : Int))) with cF1 | cF1
      · refine A_ops_end ?_
        exact w_k (A_cut hwf)
      · refine A_ops_end ?_
        exact w_k (A_cut hwf)
    refine A_condH hr (fun cF2 hr => ?_) (fun cF2 hr => ?_)
    · refine w_skip ?_
      refine w_n ?_
      refine w_seq ?_
      refine w_block ?_
      refine w_seq ?_
      obtain ⟨n1, nF3, eF4, gF5, hr⟩ := hr.idx
      refine w_region rfl (by simp (disch := (apply Apart.mk; decide)) only [go_sem, Nat.reduceAdd, Nat.reduceLT, Nat.reduceMul, Nat.reduceLeDiff, Int.reduceToNat, Int.reduceLT, Int.reduceLE, nF3, eF4, gF5, (eq_false (by decide : ¬ ((128 : Int) = 0))), cF2]; rfl) ?_
      refine w_n ?_
      refine w_seq ?_
      refine A_region ?_
      refine w_n ?_
      refine w_seq ?_
      refine A_region ?_
      refine w_n ?_
      refine A_condH hr (fun cF6 hr => ?_) (fun cF6 hr => ?_)
      · refine w_seq ?_
        refine w_joinR (sj := ⟨[(5, .cv (.val (.int .i64 (IntKind.i64.wrap (n + (IntKind.i64.wrap ((IntKind.i64.wrap (Int.tmod (n1.toNat : Int) (128 : Int))) * weight))))))), (7, .cv (.val (.int .i64 i))), (47, .cv (.val (.bool ((decide ((IntKind.i64.wrap (n + (IntKind.i64.wrap ((IntKind.i64.wrap (Int.tmod (n1.toNat : Int) (128 : Int))) * weight)))) > (2147483647 : Int))) || ((decide (i > (0 : Int))) && ((n1.toNat : Int) == (0 : Int)))))))], h.on []⟩) (A_ops ?_) ?_
        · refine A_upto 3 ?_
          rcases Bool.eq_false_or_eq_true (decide ((IntKind.i64.wrap (n + (IntKind.i64.wrap ((IntKind.i64.wrap (Int.tmod (n1.toNat : Int) (128 : Int))) * weight)))) > (2147483647 : Int))) with cF7 | cF7
          · refine A_ops_end ?_
            exact w_k (A_cut hwf)
          · refine A_upto 3 ?_
            rcases Bool.eq_false_or_eq_true (decide (i > (0 : Int))) with cF8 | cF8
            · refine A_ops_end ?_
              exact w_k (A_cut hwf)
            · refine A_ops_end ?_
              exact w_k (A_cut hwf)
        refine A_condH hr (fun cF9 hr => ?_) (fun cF9 hr => ?_)
        · refine w_seq ?_
          refine A_region ?_
          refine w_n ?_
          refine w_ret ?_
          obtain rfl := hD _ hr
          exact (w_tr (w_br (w_tr (w_tr (w_br (w_tr (w_tr (A_endR (A_cut (os' := []) (sl := [(2, .cv (.val (.int .i64 (0 : Int)))), (3, .cv (.val (.int .i64 (0 : Int)))), (4, .cv (.val (.int .i64 (2 : Int))))]) hwf) ⟨rfl, on_nil hwf⟩))))))))
        · refine w_skip ?_
          refine w_n ?_
          refine w_seq ?_
          refine A_region ?_
          refine w_n ?_
          refine w_ret ?_
          obtain rfl := hD _ hr
          exact (w_br (w_tr (w_tr (w_br (w_tr (w_tr (A_endR (A_cut (os' := []) (sl := [(2, .cv (.val (.int .i64 (IntKind.i64.wrap (n + (IntKind.i64.wrap ((IntKind.i64.wrap (Int.tmod (n1.toNat : Int) (128 : Int))) * weight))))))), (3, .cv (.val (.int .i64 (IntKind.i64.wrap (i + (1 : Int)))))), (4, .cv (.val (.int .i64 (0 : Int))))]) hwf) ⟨rfl, on_nil hwf⟩)))))))
      · refine w_skip ?_
        refine (w_bn (w_n ?_))
        refine A_region ?_
        exact (w_k ⟨((IntKind.i64.wrap (n + (IntKind.i64.wrap ((IntKind.i64.wrap (Int.tmod (n1.toNat : Int) (128 : Int))) * weight)))), (IntKind.i64.wrap (weight * (128 : Int))), (IntKind.i64.wrap (i + (1 : Int)))), hr, (A_cut hwf)⟩)
    · refine w_exit ?_
      exact (w_te (w_te (w_bx (w_k ⟨(), (hr).map, (A_cut hwf)⟩))))
end Go.Val

/- part GW68 -/
/- scansion/scansionref18.row runs as it is read off. -/
namespace Go.Val
set_option linter.unusedVariables false
set_option linter.unusedSimpArgs false
set_option maxRecDepth 20000
open Go.Proofs
theorem scansionref18_row_runs (b : List UInt8) {h : Heap} {a : (List TEdge × List UInt8 × Bool)} (e : scansionref18_row b = some a) :
    Runs CT 68 [.cv (.val (.sl (List.map eU b)))] h fun o h' => o = [.cv (.val (.sl (List.map eEdge a.1))), .cv (.val (.sl (List.map eU a.2.1))), .cv (.val (.bool a.2.2))] ∧ h' = h := by
  refine Runs.start Try.f68 _ Try.func68 rfl (by rw [Try.ntmps68]; simp) (by rfl) (by rfl) (fun hwf hu => ?_)
  obtain ⟨D, hD, hr⟩ : ∃ D : (List TEdge × List UInt8 × Bool) → Prop, (∀ z, D z → z = a) ∧ Holds (scansionref18_row b) D := ⟨fun z => z = a, fun _ h => h, Holds.intro e rfl⟩
  dsimp only [scansionref18_row] at hr
  change wpCode _ _ _ _ _ ⟨[(0, .cv (.val (.sl (List.map eU b))))], h.on []⟩
  refine w_seq ?_
  refine A_region ?_
  refine w_n ?_
  refine w_seq ?_
  refine A_ops ?_
  refine A_upto 1 ?_
  obtain ⟨r, eF1, hr⟩ := hr.bind
  refine A_call (out := ?o_eF1) (hp := ?p_eF1) ?c_eF1 ?d_eF1 ?_
  case c_eF1 => exact scansionref14_Told_runs b eF1
  case d_eF1 => rfl
  refine A_ops_end ?_
  refine w_n ?_
  refine w_seq ?_
  refine w_joinR (sj := ⟨[(0, .cv (.val (.sl (List.map eU b)))), (5, .cv (.val (.int .i64 r.1))), (6, .cv (.val (.int .i64 r.2.1))), (24, .cv (.val (.bool ((r.2.2 != (0 : Int)) || (decide (r.1 > (256 : Int)))))))], h.on []⟩) (A_ops ?_) ?_
  · refine A_upto 3 ?_
    rcases Bool.eq_false_or_eq_true (r.2.2 != (0 : Int)) with cF2 | cF2
    · refine A_ops_end ?_
      exact w_k (A_cut hwf)
    · refine A_ops_end ?_
      exact w_k (A_cut hwf)
  refine A_condH hr (fun cF3 hr => ?_) (fun cF3 hr => ?_)
  · refine w_seq ?_
    refine A_region ?_
    refine w_n ?_
    refine w_ret ?_
    obtain rfl := hD _ hr
    exact (w_tr (A_endR (A_cut (os' := []) (sl := [(2, .cv (.val (.sl (List.map eEdge ([] : List TEdge))))), (3, .cv (.val (.sl (List.map eU ([] : List UInt8))))), (4, .cv (.val (.bool false)))]) hwf) ⟨rfl, on_nil hwf⟩))
  · refine w_skip ?_
    refine w_n ?_
    refine w_seq ?_
    obtain ⟨nF4, nF5, hr⟩ := hr.cutL
    refine A_region ?_
    refine w_n ?_
    refine w_seq ?_
    refine A_region ?_
    refine w_n ?_
    refine w_seq ?_
    refine w_seq ?_
    refine A_region ?_
    refine w_n ?_
    refine w_K (D := D) (fun xX : (List UInt8 × List TEdge) => ⟨[(0, .cv (.val (.sl (List.map eU xX.1)))), (8, .cv (.row 37 (List.map eEdge xX.2)))], h.on []⟩) (fun xX : (List UInt8 × List TEdge) => scansionref18_row.k1 xX.1 xX.2) (fun xX s' hr ht => ?_) ?_
    · obtain ⟨b1, l⟩ := xX
      dsimp only [scansionref18_row.k1] at hr ht
      refine (w_nT ht ?_)
      refine w_seq ?_
      refine A_region ?_
      refine w_n ?_
      refine w_ret ?_
      obtain rfl := hD _ hr
      exact (A_endR (.fix _ _ (.slot 2) 37 _ (by simp (disch := (apply Apart.mk; decide)) only [go_sem, Nat.reduceAdd, Nat.reduceLT, Nat.reduceMul, Nat.reduceLeDiff, Int.reduceToNat, Int.reduceLT, Int.reduceLE, cF3]; rfl) (A_cut (os' := []) (sl := [(2, .cv (.val (.sl (List.map eEdge l)))), (3, .cv (.val (.sl (List.map eU b1)))), (4, .cv (.val (.bool true)))]) hwf)) ⟨rfl, on_nil hwf⟩)
    · refine w_block ?_
      refine w_Loop (fun xX : (List UInt8 × List TEdge × Int) => ⟨[(0, .cv (.val (.sl (List.map eU xX.1)))), (5, .cv (.val (.int .i64 r.1))), (8, .cv (.row 37 (List.map eEdge xX.2.1))), (9, .cv (.val (.int .i64 xX.2.2)))], h.on []⟩) hr (A_cut hwf) (fun W1 xX hr => ?_)
      obtain ⟨b2, l1, i⟩ := xX
      dsimp only [scansionref18_row.b1] at hr
      refine w_seq ?_
      refine w_seq ?_
      refine A_region ?_
      refine w_n ?_
      refine A_condH hr (fun cF6 hr => ?_) (fun cF6 hr => ?_)
      · refine w_skip ?_
        refine w_n ?_
        refine w_seq ?_
        refine w_block ?_
        refine w_seq ?_
        refine w_seq ?_
        refine A_region ?_
        refine w_n ?_
        refine A_condH hr (fun cF7 hr => ?_) (fun cF7 hr => ?_)
        · refine w_seq ?_
          refine A_region ?_
          refine w_n ?_
          refine w_ret ?_
          obtain rfl := hD _ hr
          exact (w_tr (w_br (w_tr (w_tr (w_br (w_tr (w_tr (A_endR (A_cut (os' := []) (sl := [(2, .cv (.val (.sl (List.map eEdge ([] : List TEdge))))), (3, .cv (.val (.sl (List.map eU ([] : List UInt8))))), (4, .cv (.val (.bool false)))]) hwf) ⟨rfl, on_nil hwf⟩))))))))
        · refine w_skip ?_
          refine w_n ?_
          refine w_seq ?_
          refine A_ops ?_
          obtain ⟨nF8, nF9, hr⟩ := hr.cutL
          refine A_upto 2 ?_
          obtain ⟨r1, eF10, hr⟩ := hr.bind
          refine A_call (out := ?o_eF10) (hp := ?p_eF10) ?c_eF10 ?d_eF10 ?_
          case c_eF10 => exact scansionref14_Told_runs (List.drop (Int.toNat (1 : Int)) b2) eF10
          case d_eF10 => rfl
          refine A_ops_end ?_
          refine w_n ?_
          refine w_seq ?_
          refine w_seq ?_
          refine A_region ?_
          refine w_n ?_
          refine A_condH hr (fun cF11 hr => ?_) (fun cF11 hr => ?_)
          · refine w_seq ?_
            refine A_region ?_
            refine w_n ?_
            refine w_ret ?_
            obtain rfl := hD _ hr
            exact (w_tr (w_br (w_tr (w_tr (w_br (w_tr (w_tr (A_endR (A_cut (os' := []) (sl := [(2, .cv (.val (.sl (List.map eEdge ([] : List TEdge))))), (3, .cv (.val (.sl (List.map eU ([] : List UInt8))))), (4, .cv (.val (.bool false)))]) hwf) ⟨rfl, on_nil hwf⟩))))))))
          · refine w_skip ?_
            refine w_n ?_
            refine w_seq ?_
            obtain ⟨n, eF12, gF13, hr⟩ := hr.idxK
            obtain ⟨nF14, hr⟩ := hr.room
            refine A_region ?_
            refine w_n ?_
            obtain ⟨nF15, nF16, hr⟩ := hr.cutL
            refine A_region ?_
            refine (w_bn (w_n ?_))
            refine A_region ?_
            exact (w_k ⟨((List.drop (Int.toNat (IntKind.i64.wrap ((1 : Int) + r1.2.1))) b2), (l1 ++ ([(TEdge.mk n r1.1)])), (IntKind.i64.wrap (i + (1 : Int)))), hr, (A_cut hwf)⟩)
      · refine w_exit ?_
        exact (w_te (w_te (w_bx (w_k ⟨(b2, l1), (hr).map, (A_cut hwf)⟩))))
end Go.Val

/- part GW47 -/
/- scansion/scansionref18.Load runs as it is read off. -/
namespace Go.Val
set_option linter.unusedVariables false
set_option linter.unusedSimpArgs false
set_option maxRecDepth 20000
open Go.Proofs
theorem scansionref18_Load_runs (b : List UInt8) {h : Heap} {a : (Option Tscansionref18_Array × Int)} (e : scansionref18_Load b = some a) :
    Runs CT 47 [.cv (.val (.sl (List.map eU b)))] h fun o h' => match a.1 with | none => o = [.cv (.val (.ptr none)), .cv (.val (.int .i64 a.2))] ∧ h' = h | some y => o = [.cv (.val (.ptr (some (h.n + 2, 0)))), .cv (.val (.int .i64 a.2))] ∧ h' = h.on [none, none, some (.cells [.val (.sl (List.map eB y.G.Final)), .val (.sl (List.map (eL eEdge) y.G.Edges)), .val (.int .i64 y.Cells)])] := by
  refine Runs.start Try.f47 _ Try.func47 rfl (by rw [Try.ntmps47]; simp) (by rfl) (by rfl) (fun hwf hu => ?_)
  obtain ⟨D, hD, hr⟩ : ∃ D : (Option Tscansionref18_Array × Int) → Prop, (∀ z, D z → z = a) ∧ Holds (scansionref18_Load b) D := ⟨fun z => z = a, fun _ h => h, Holds.intro e rfl⟩
  dsimp only [scansionref18_Load] at hr
  change wpCode _ _ _ _ _ ⟨[(0, .cv (.val (.sl (List.map eU b))))], h.on []⟩
  refine w_seq ?_
  refine A_region ?_
  refine w_n ?_
  refine w_seq ?_
  refine A_ops ?_
  refine A_upto 1 ?_
  obtain ⟨r, eF1, hr⟩ := hr.bind
  refine A_call (out := ?o_eF1) (hp := ?p_eF1) ?c_eF1 ?d_eF1 ?_
  case c_eF1 => exact scansionref14_Told_runs b eF1
  case d_eF1 => rfl
  refine A_ops_end ?_
  refine w_n ?_
  refine w_seq ?_
  refine w_joinR (sj := ⟨[(0, .cv (.val (.sl (List.map eU b)))), (4, .cv (.val (.int .i64 r.1))), (5, .cv (.val (.int .i64 r.2.1))), (25, .cv (.val (.bool ((r.2.2 != (0 : Int)) || (decide (r.1 > (20000 : Int)))))))], h.on []⟩) (A_ops ?_) ?_
  · refine A_upto 3 ?_
    rcases Bool.eq_false_or_eq_true (r.2.2 != (0 : Int)) with cF2 | cF2
    · refine A_ops_end ?_
      exact w_k (A_cut hwf)
    · refine A_ops_end ?_
      exact w_k (A_cut hwf)
  refine A_condH hr (fun cF3 hr => ?_) (fun cF3 hr => ?_)
  · refine w_seq ?_
    refine A_region ?_
    refine w_n ?_
    refine w_ret ?_
    obtain rfl := hD _ hr
    exact (w_tr (A_endR (A_cut (os' := []) (sl := [(2, .cv (.val (.ptr none))), (3, .cv (.val (.int .i64 (2 : Int))))]) hwf) ⟨rfl, on_nil hwf⟩))
  · refine w_skip ?_
    refine w_n ?_
    refine w_seq ?_
    obtain ⟨nF4, nF5, hr⟩ := hr.cutL
    refine A_region ?_
    refine w_n ?_
    refine w_seq ?_
    refine A_region ?_
    refine w_n ?_
    refine w_seq ?_
    refine w_seq ?_
    refine A_region ?_
    refine w_n ?_
    refine w_K (D := D) (fun xX : (List UInt8 × List Bool × List (List TEdge)) => ⟨[(0, .cv (.val (.sl (List.map eU xX.1)))), (7, .cv (.val (.ptr (some (h.n + 0, 0)))))], h.on [some (.cells [.row 4 (List.map eB xX.2.1), .row 35 (List.map (eL eEdge) xX.2.2)])]⟩) (fun xX : (List UInt8 × List Bool × List (List TEdge)) => scansionref18_Load.k1 xX.1 xX.2.1 xX.2.2) (fun xX s' hr ht => ?_) ?_
    · obtain ⟨b1, Final, Edges⟩ := xX
      dsimp only [scansionref18_Load.k1] at hr ht
      refine (w_nT ht ?_)
      refine w_seq ?_
      refine w_toR (.fix _ _ (.cell (h.n + 0) 0) 4 _ (by simp (disch := (apply Apart.mk; decide)) only [go_sem, Nat.reduceAdd, Nat.reduceLT, Nat.reduceMul, Nat.reduceLeDiff, Int.reduceToNat, Int.reduceLT, Int.reduceLE, cF3]; rfl) (.refl _)) ?_
      refine w_toR (.fix _ _ (.cell (h.n + 0) 1) 35 _ (by simp (disch := (apply Apart.mk; decide)) only [go_sem, Nat.reduceAdd, Nat.reduceLT, Nat.reduceMul, Nat.reduceLeDiff, Int.reduceToNat, Int.reduceLT, Int.reduceLE, cF3]; rfl) (.refl _)) ?_
      refine A_ops ?_
      refine A_upto 1 ?_
      obtain ⟨r1, eF6, hr⟩ := hr.bind
      try dsimp only at hr
      rcases xF11 : r1.1 with _ | y
      · rw [xF11] at hr
        dsimp only at hr
        refine A_call (out := ?o_eF6a) (hp := ?p_eF6a) ?c_eF6a ?d_eF6a ?_
        case c_eF6a => exact scansionref18_Pack_runs_none (TGraph.mk Final Edges) eF6 xF11
        case d_eF6a => rfl
        refine A_ops_end ?_
        refine w_n ?_
        refine w_seq ?_
        refine w_joinR (sj := ⟨[(12, .cv (.val (.ptr none))), (79, .cv (.val (.bool ((r1.2 != (0 : Int)) || (decide ((b1.length : Int) > (0 : Int)))))))], h.on []⟩) (A_ops ?_) ?_
        · refine A_upto 3 ?_
          rcases Bool.eq_false_or_eq_true (r1.2 != (0 : Int)) with cF7 | cF7
          · refine A_ops_end ?_
            exact w_k (A_cut hwf)
          · refine A_ops_end ?_
            exact w_k (A_cut hwf)
        refine A_condH hr (fun cF8 hr => ?_) (fun cF8 hr => ?_)
        · refine w_seq ?_
          refine A_region ?_
          refine w_n ?_
          refine w_ret ?_
          obtain rfl := hD _ hr
          exact (w_tr (A_endR (A_cut (os' := []) (sl := [(2, .cv (.val (.ptr none))), (3, .cv (.val (.int .i64 (2 : Int))))]) hwf) ⟨rfl, on_nil hwf⟩))
        · refine w_skip ?_
          refine w_n ?_
          refine w_seq ?_
          refine A_region ?_
          refine w_n ?_
          refine w_ret ?_
          obtain rfl := hD _ hr
          exact (A_endR (A_cut (os' := []) (sl := [(2, .cv (.val (.ptr none))), (3, .cv (.val (.int .i64 (0 : Int))))]) hwf) ⟨rfl, on_nil hwf⟩)
      · rw [xF11] at hr
        dsimp only at hr
        refine A_call (out := ?o_eF6b) (hp := ?p_eF6b) ?c_eF6b ?d_eF6b ?_
        case c_eF6b => exact scansionref18_Pack_runs_some (TGraph.mk Final Edges) eF6 xF11
        case d_eF6b => rfl
        refine A_ops_end ?_
        refine w_n ?_
        refine w_seq ?_
        refine w_joinR (sj := ⟨[(12, .cv (.val (.ptr (some (h.n + 2, 0))))), (79, .cv (.val (.bool ((r1.2 != (0 : Int)) || (decide ((b1.length : Int) > (0 : Int)))))))], h.on [none, none, some (.cells [.val (.sl (List.map eB y.G.Final)), .val (.sl (List.map (eL eEdge) y.G.Edges)), .val (.int .i64 y.Cells)])]⟩) (A_ops ?_) ?_
        · refine A_upto 3 ?_
          rcases Bool.eq_false_or_eq_true (r1.2 != (0 : Int)) with cF9 | cF9
          · refine A_ops_end ?_
            exact w_k (A_cut hwf)
          · refine A_ops_end ?_
            exact w_k (A_cut hwf)
        refine A_condH hr (fun cF10 hr => ?_) (fun cF10 hr => ?_)
        · refine w_seq ?_
          refine A_region ?_
          refine w_n ?_
          refine w_ret ?_
          obtain rfl := hD _ hr
          exact (w_tr (A_endR (A_cut (os' := []) (sl := [(2, .cv (.val (.ptr none))), (3, .cv (.val (.int .i64 (2 : Int))))]) hwf) ⟨rfl, on_nil hwf⟩))
        · refine w_skip ?_
          refine w_n ?_
          refine w_seq ?_
          refine A_region ?_
          refine w_n ?_
          refine w_ret ?_
          obtain rfl := hD _ hr
          exact (w_endR (A_cut (os' := [none, none, some (.cells [.val (.sl (List.map eB y.G.Final)), .val (.sl (List.map (eL eEdge) y.G.Edges)), .val (.int .i64 y.Cells)])]) (sl := [(2, .cv (.val (.ptr (some (h.n + 2, 0))))), (3, .cv (.val (.int .i64 (0 : Int))))]) hwf) (by simp (disch := (apply Apart.mk; decide)) only [go_sem, Nat.reduceAdd, Nat.reduceLT, Nat.reduceMul, Nat.reduceLeDiff, Int.reduceToNat, Int.reduceLT, Int.reduceLE, Try.results47, results_data CT_gives47, resCell, resVal.eq_2, loadOp_sv, cF3, cF10]) ⟨rfl, rfl⟩)
    · refine w_block ?_
      refine w_Loop (fun xX : (List UInt8 × Int × List Bool × List (List TEdge)) => ⟨[(0, .cv (.val (.sl (List.map eU xX.1)))), (4, .cv (.val (.int .i64 r.1))), (7, .cv (.val (.ptr (some (h.n + 0, 0))))), (8, .cv (.val (.int .i64 xX.2.1)))], h.on [some (.cells [.row 4 (List.map eB xX.2.2.1), .row 35 (List.map (eL eEdge) xX.2.2.2)])]⟩) hr (A_cut hwf) (fun W1 xX hr => ?_)
      obtain ⟨b2, s, Final1, Edges1⟩ := xX
      dsimp only [scansionref18_Load.b1] at hr
      refine w_seq ?_
      refine w_seq ?_
      refine A_region ?_
      refine w_n ?_
      refine A_condH hr (fun cF12 hr => ?_) (fun cF12 hr => ?_)
      · refine w_skip ?_
        refine w_n ?_
        refine w_seq ?_
        refine w_block ?_
        refine w_seq ?_
        obtain ⟨v3, vF16, hr⟩ := hr.bind
        refine w_joinR (sj := ⟨[(0, .cv (.val (.sl (List.map eU b2)))), (4, .cv (.val (.int .i64 r.1))), (7, .cv (.val (.ptr (some (h.n + 0, 0))))), (8, .cv (.val (.int .i64 s))), (42, .cv (.val (.bool v3)))], h.on [some (.cells [.row 4 (List.map eB Final1), .row 35 (List.map (eL eEdge) Edges1)])]⟩) (A_ops ?_) ?_
        · have hr := Holds.intro (D := fun z => z = v3) vF16 rfl
          refine A_upto 4 ?_
          rcases hr.ite with ⟨cF13, hr⟩ | ⟨cF13, hr⟩
          · refine A_ops_end ?_
            obtain rfl : _ = v3 := hr
            exact w_k (A_cut hwf)
          · obtain ⟨n, eF14, gF15, hr⟩ := hr.idxK
            refine A_ops_end ?_
            obtain rfl : _ = v3 := hr
            exact w_k (A_cut hwf)
        refine A_condH hr (fun cF17 hr => ?_) (fun cF17 hr => ?_)
        · refine w_seq ?_
          refine A_region ?_
          refine w_n ?_
          refine w_ret ?_
          obtain rfl := hD _ hr
          exact (w_tr (w_br (w_tr (w_tr (w_br (w_tr (w_tr (A_endR (A_cut (os' := []) (sl := [(2, .cv (.val (.ptr none))), (3, .cv (.val (.int .i64 (2 : Int))))]) hwf) ⟨rfl, on_nil hwf⟩))))))))
        · refine w_skip ?_
          refine w_n ?_
          refine w_seq ?_
          refine w_drawn [0, 1, 2, 3, 4, 5, 6, 7, 8, 9] (by rfl) ?_
          obtain ⟨n1, eF18, gF19, hr⟩ := hr.idxK
          obtain ⟨nF20, hr⟩ := hr.room
          refine p_run (l := [0, 1, 2, 3, 4, 5, 6]) (pend' := [6, 5, 4, 3, 2, 1, 0]) (by simp (disch := (apply Apart.mk; decide)) only [go_sem, Nat.reduceAdd, Nat.reduceLT, Nat.reduceMul, Nat.reduceLeDiff, Int.reduceToNat, Int.reduceLT, Int.reduceLE, eF18, gF19, nF20]; rfl) rfl ?_
          refine p_op (pend' := []) rfl (by simp (disch := (apply Apart.mk; decide)) only [go_sem, Nat.reduceAdd, Nat.reduceLT, Nat.reduceMul, Nat.reduceLeDiff, Int.reduceToNat, Int.reduceLT, Int.reduceLE, eF18, gF19, nF20]) (by simp (disch := (apply Apart.mk; decide)) only [go_sem, Nat.reduceAdd, Nat.reduceLT, Nat.reduceMul, Nat.reduceLeDiff, Int.reduceToNat, Int.reduceLT, Int.reduceLE, eF18, gF19, nF20]; rfl) (by rfl) ?_
          refine p_run (l := [8]) (pend' := [8]) (by simp (disch := (apply Apart.mk; decide)) only [go_sem, Nat.reduceAdd, Nat.reduceLT, Nat.reduceMul, Nat.reduceLeDiff, Int.reduceToNat, Int.reduceLT, Int.reduceLE, eF18, gF19, nF20]; rfl) rfl ?_
          refine p_op (pend' := []) rfl (by simp (disch := (apply Apart.mk; decide)) only [go_sem, Nat.reduceAdd, Nat.reduceLT, Nat.reduceMul, Nat.reduceLeDiff, Int.reduceToNat, Int.reduceLT, Int.reduceLE, eF18, gF19, nF20]) (by simp (disch := (apply Apart.mk; decide)) only [go_sem, Nat.reduceAdd, Nat.reduceLT, Nat.reduceMul, Nat.reduceLeDiff, Int.reduceToNat, Int.reduceLT, Int.reduceLE, eF18, gF19, nF20]; rfl) (by rfl) ?_
          refine p_end (by simp (disch := (apply Apart.mk; decide)) only [go_sem, Nat.reduceAdd, Nat.reduceLT, Nat.reduceMul, Nat.reduceLeDiff, Int.reduceToNat, Int.reduceLT, Int.reduceLE, eF18, gF19, nF20]) ?_
          refine w_n ?_
          refine w_seq ?_
          refine A_ops ?_
          obtain ⟨nF21, nF22, hr⟩ := hr.cutL
          refine A_upto 2 ?_
          obtain ⟨r2, eF23, hr⟩ := hr.bind
          refine A_call (out := ?o_eF23) (hp := ?p_eF23) ?c_eF23 ?d_eF23 ?_
          case c_eF23 => exact scansionref18_row_runs (List.drop (Int.toNat (1 : Int)) b2) eF23
          case d_eF23 => rfl
          refine A_ops_end ?_
          refine w_n ?_
          refine w_seq ?_
          refine w_seq ?_
          refine A_region ?_
          refine w_n ?_
          refine A_condH hr (fun cF24 hr => ?_) (fun cF24 hr => ?_)
          · refine w_seq ?_
            refine A_region ?_
            refine w_n ?_
            refine w_ret ?_
            obtain rfl := hD _ hr
            exact (w_tr (w_br (w_tr (w_tr (w_br (w_tr (w_tr (A_endR (A_cut (os' := []) (sl := [(2, .cv (.val (.ptr none))), (3, .cv (.val (.int .i64 (2 : Int))))]) hwf) ⟨rfl, on_nil hwf⟩))))))))
          · refine w_skip ?_
            refine w_n ?_
            refine w_seq ?_
            obtain ⟨nF25, hr⟩ := hr.room
            refine A_region ?_
            refine w_n ?_
            refine A_region ?_
            refine (w_bn (w_n ?_))
            refine A_region ?_
            exact (w_k ⟨(r2.2.1, (IntKind.i64.wrap (s + (1 : Int))), (Final1 ++ ([((n1.toNat : Int) == (1 : Int))])), (Edges1 ++ ([r2.1]))), hr, (A_cut hwf)⟩)
      · refine w_exit ?_
        exact (w_te (w_te (w_bx (w_k ⟨(b2, Final1, Edges1), (hr).map, (A_cut hwf)⟩))))
theorem scansionref18_Load_runs_none (b : List UInt8) {h : Heap} {a : (Option Tscansionref18_Array × Int)} (e : scansionref18_Load b = some a) (hx : a.1 = none) :
    Runs CT 47 [.cv (.val (.sl (List.map eU b)))] h fun o h' => o = [.cv (.val (.ptr none)), .cv (.val (.int .i64 a.2))] ∧ h' = h := by
  have := scansionref18_Load_runs (h := h) b e
  rw [hx] at this
  exact this
theorem scansionref18_Load_runs_some (b : List UInt8) {h : Heap} {a : (Option Tscansionref18_Array × Int)} {y : Tscansionref18_Array} (e : scansionref18_Load b = some a) (hx : a.1 = some y) :
    Runs CT 47 [.cv (.val (.sl (List.map eU b)))] h fun o h' => o = [.cv (.val (.ptr (some (h.n + 2, 0)))), .cv (.val (.int .i64 a.2))] ∧ h' = h.on [none, none, some (.cells [.val (.sl (List.map eB y.G.Final)), .val (.sl (List.map (eL eEdge) y.G.Edges)), .val (.int .i64 y.Cells)])] := by
  have := scansionref18_Load_runs (h := h) b e
  rw [hx] at this
  exact this
end Go.Val

/- part GW50 -/
/- scansion/scansionref17.right runs as it is read off. -/
namespace Go.Val
set_option linter.unusedVariables false
set_option linter.unusedSimpArgs false
set_option maxRecDepth 20000
open Go.Proofs
theorem scansionref17_right_runs (words : List Str) {h : Heap} {a : Bool} (e : scansionref17_right words = some a) :
    Runs CT 50 [.cv (.val (.sl (List.map eS words)))] h fun o h' => o = [.cv (.val (.bool a))] ∧ h' = h := by
  refine Runs.start Try.f50 _ Try.func50 rfl (by rw [Try.ntmps50]; simp) (by rfl) (by rfl) (fun hwf hu => ?_)
  obtain ⟨D, hD, hr⟩ : ∃ D : Bool → Prop, (∀ z, D z → z = a) ∧ Holds (scansionref17_right words) D := ⟨fun z => z = a, fun _ h => h, Holds.intro e rfl⟩
  dsimp only [scansionref17_right] at hr
  change wpCode _ _ _ _ _ ⟨[(0, .cv (.val (.sl (List.map eS words))))], h.on []⟩
  refine w_seq ?_
  refine A_region ?_
  refine w_n ?_
  refine w_seq ?_
  refine w_seq ?_
  refine A_region ?_
  refine w_n ?_
  refine A_condH hr (fun cF1 hr => ?_) (fun cF1 hr => ?_)
  · refine w_seq ?_
    refine A_region ?_
    refine w_n ?_
    refine w_ret ?_
    obtain rfl := hD _ hr
    exact (w_tr (A_endR (A_cut (os' := []) (sl := [(2, .cv (.val (.bool false)))]) hwf) ⟨rfl, on_nil hwf⟩))
  · refine w_skip ?_
    refine w_n ?_
    refine w_seq ?_
    refine w_seq ?_
    refine A_region ?_
    refine w_n ?_
    refine w_K (D := D) (fun xX : Unit => ⟨[], h.on []⟩) (fun xX : Unit => scansionref17_right.k1) (fun xX s' hr ht => ?_) ?_
    · dsimp only [scansionref17_right.k1] at hr ht
      refine (w_nT ht ?_)
      refine w_seq ?_
      refine A_region ?_
      refine w_n ?_
      refine w_ret ?_
      obtain rfl := hD _ hr
      exact (A_endR (A_cut (os' := []) (sl := [(2, .cv (.val (.bool true)))]) hwf) ⟨rfl, on_nil hwf⟩)
    · refine w_block ?_
      refine w_Loop (fun xX : Int => ⟨[(0, .cv (.val (.sl (List.map eS words)))), (3, .cv (.val (.int .i64 xX)))], h.on []⟩) hr (A_cut hwf) (fun W1 xX hr => ?_)
      obtain ⟨i, rfl⟩ : ∃ z, z = xX := ⟨xX, rfl⟩
      dsimp only [scansionref17_right.b1] at hr
      refine w_seq ?_
      refine w_seq ?_
      refine A_region ?_
      refine w_n ?_
      refine A_condH hr (fun cF2 hr => ?_) (fun cF2 hr => ?_)
      · refine w_skip ?_
        refine w_n ?_
        refine w_seq ?_
        refine w_block ?_
        obtain ⟨v, vF12, hr⟩ := hr.bind
        refine w_joinR (sj := ⟨[(0, .cv (.val (.sl (List.map eS words)))), (3, .cv (.val (.int .i64 i))), (42, .cv (.val (.bool v)))], h.on []⟩) (w_drawn [0, 1, 2, 3, 4, 5, 6, 7, 8, 9, 10, 11, 12, 13, 14, 15, 16, 17, 18, 19, 20, 21, 22, 23, 24, 25, 26, 27, 28, 29] (by rfl) ?_) ?_
        · have hr := Holds.intro (D := fun z => z = v) vF12 rfl
          obtain ⟨s, nF3, eF4, gF5, hr⟩ := hr.idx
          refine p_run (l := [0, 1, 2, 3, 4, 5, 6]) (pend' := [6, 5, 4, 3, 2, 1, 0]) (by simp (disch := (apply Apart.mk; decide)) only [go_sem, Nat.reduceAdd, Nat.reduceLT, Nat.reduceMul, Nat.reduceLeDiff, Int.reduceToNat, Int.reduceLT, Int.reduceLE, nF3, eF4, gF5]; rfl) rfl ?_
          rcases hr.ite with ⟨cF6, hr⟩ | ⟨cF6, hr⟩
          · refine p_run (l := [7, 8, 9, 10, 11, 12, 13, 14, 15, 16, 17, 18, 19, 20, 21, 22, 23, 24, 25, 26, 27, 28, 29]) (pend' := [29, 28, 27, 26, 25, 24, 23, 22, 21, 20, 19, 18, 17, 16, 15, 14, 13, 12, 11, 10, 9, 8, 7, 6, 5, 4, 3, 2, 1, 0]) (by simp (disch := (apply Apart.mk; decide)) only [go_sem, Nat.reduceAdd, Nat.reduceLT, Nat.reduceMul, Nat.reduceLeDiff, Int.reduceToNat, Int.reduceLT, Int.reduceLE, nF3, eF4, gF5, cF6]; rfl) rfl ?_
            refine p_end (by simp (disch := (apply Apart.mk; decide)) only [go_sem, Nat.reduceAdd, Nat.reduceLT, Nat.reduceMul, Nat.reduceLeDiff, Int.reduceToNat, Int.reduceLT, Int.reduceLE, nF3, eF4, gF5, cF6]) ?_
            obtain rfl : _ = v := hr
            exact w_k (A_cut hwf)
          · refine p_run (l := [7, 8, 9, 10, 11, 12, 13, 14]) (pend' := [14, 13, 12, 11, 10, 9, 8, 7, 6, 5, 4, 3, 2, 1, 0]) (by simp (disch := (apply Apart.mk; decide)) only [go_sem, Nat.reduceAdd, Nat.reduceLT, Nat.reduceMul, Nat.reduceLeDiff, Int.reduceToNat, Int.reduceLT, Int.reduceLE, nF3, eF4, gF5, cF6]; rfl) rfl ?_
            rcases hr.ite with ⟨cF7, hr⟩ | ⟨cF7, hr⟩
            · refine p_run (l := [15, 16, 17, 18, 19, 20, 21, 22, 23, 24, 25, 26, 27, 28, 29]) (pend' := [29, 28, 27, 26, 25, 24, 23, 22, 21, 20, 19, 18, 17, 16, 15, 14, 13, 12, 11, 10, 9, 8, 7, 6, 5, 4, 3, 2, 1, 0]) (by simp (disch := (apply Apart.mk; decide)) only [go_sem, Nat.reduceAdd, Nat.reduceLT, Nat.reduceMul, Nat.reduceLeDiff, Int.reduceToNat, Int.reduceLT, Int.reduceLE, nF3, eF4, gF5, cF6, cF7]; rfl) rfl ?_
              refine p_end (by simp (disch := (apply Apart.mk; decide)) only [go_sem, Nat.reduceAdd, Nat.reduceLT, Nat.reduceMul, Nat.reduceLeDiff, Int.reduceToNat, Int.reduceLT, Int.reduceLE, nF3, eF4, gF5, cF6, nF3, eF4, gF5, cF7]) ?_
              obtain rfl : _ = v := hr
              exact w_k (A_cut hwf)
            · refine p_run (l := [15, 16, 17]) (pend' := [17, 16, 15, 14, 13, 12, 11, 10, 9, 8, 7, 6, 5, 4, 3, 2, 1, 0]) (by simp (disch := (apply Apart.mk; decide)) only [go_sem, Nat.reduceAdd, Nat.reduceLT, Nat.reduceMul, Nat.reduceLeDiff, Int.reduceToNat, Int.reduceLT, Int.reduceLE, nF3, eF4, gF5, cF6, cF7]; rfl) rfl ?_
              rcases hr.ite with ⟨cF8, hr⟩ | ⟨cF8, hr⟩
              · obtain ⟨s1, nF9, eF10, gF11, hr⟩ := hr.idx
                refine p_run (l := [18, 19, 20, 21, 22, 23, 24, 25, 26, 27, 28, 29]) (pend' := [29, 28, 27, 26, 25, 24, 23, 22, 21, 20, 19, 18, 17, 16, 15, 14, 13, 12, 11, 10, 9, 8, 7, 6, 5, 4, 3, 2, 1, 0]) (by simp (disch := (apply Apart.mk; decide)) only [go_sem, Nat.reduceAdd, Nat.reduceLT, Nat.reduceMul, Nat.reduceLeDiff, Int.reduceToNat, Int.reduceLT, Int.reduceLE, nF3, eF4, gF5, cF6, cF7, cF8, nF9, eF10, gF11]; rfl) rfl ?_
                refine p_end (by simp (disch := (apply Apart.mk; decide)) only [go_sem, Nat.reduceAdd, Nat.reduceLT, Nat.reduceMul, Nat.reduceLeDiff, Int.reduceToNat, Int.reduceLT, Int.reduceLE, nF3, eF4, gF5, cF6, nF3, eF4, gF5, cF7, cF8, nF3, eF4, gF5, nF9, eF10, gF11]) ?_
                obtain rfl : _ = v := hr
                exact w_k (A_cut hwf)
              · refine p_run (l := [18, 19, 20, 21, 22, 23, 24, 25, 26, 27, 28, 29]) (pend' := [29, 28, 27, 26, 25, 24, 23, 22, 21, 20, 19, 18, 17, 16, 15, 14, 13, 12, 11, 10, 9, 8, 7, 6, 5, 4, 3, 2, 1, 0]) (by simp (disch := (apply Apart.mk; decide)) only [go_sem, Nat.reduceAdd, Nat.reduceLT, Nat.reduceMul, Nat.reduceLeDiff, Int.reduceToNat, Int.reduceLT, Int.reduceLE, nF3, eF4, gF5, cF6, cF7, cF8]; rfl) rfl ?_
                refine p_end (by simp (disch := (apply Apart.mk; decide)) only [go_sem, Nat.reduceAdd, Nat.reduceLT, Nat.reduceMul, Nat.reduceLeDiff, Int.reduceToNat, Int.reduceLT, Int.reduceLE, nF3, eF4, gF5, cF6, nF3, eF4, gF5, cF7, cF8]) ?_
                obtain rfl : _ = v := hr
                exact w_k (A_cut hwf)
        refine A_condH hr (fun cF13 hr => ?_) (fun cF13 hr => ?_)
        · refine w_seq ?_
          refine A_region ?_
          refine w_n ?_
          refine w_ret ?_
          obtain rfl := hD _ hr
          exact (w_br (w_tr (w_tr (w_br (w_tr (w_tr (A_endR (A_cut (os' := []) (sl := [(2, .cv (.val (.bool false)))]) hwf) ⟨rfl, on_nil hwf⟩)))))))
        · refine w_skip ?_
          refine (w_bn (w_n ?_))
          refine A_region ?_
          exact (w_k ⟨(IntKind.i64.wrap (i + (1 : Int))), hr, (A_cut hwf)⟩)
      · refine w_exit ?_
        exact (w_te (w_te (w_bx (w_k ⟨(), (hr).map, (A_cut hwf)⟩))))
end Go.Val

/- part GW74 -/
/- scansion/scansionref17.one runs as it is read off. -/
namespace Go.Val
set_option linter.unusedVariables false
set_option linter.unusedSimpArgs false
set_option maxRecDepth 20000
open Go.Proofs
theorem scansionref17_one_runs (ends : List Str) {h : Heap} {a : Str} (e : scansionref17_one ends = some a) :
    Runs CT 74 [.cv (.val (.sl (List.map eS ends)))] h fun o h' => o = [.cv (.val (.str (bs a)))] ∧ h' = h := by
  refine Runs.start Try.f74 _ Try.func74 rfl (by rw [Try.ntmps74]; simp) (by rfl) (by rfl) (fun hwf hu => ?_)
  obtain ⟨D, hD, hr⟩ : ∃ D : Str → Prop, (∀ z, D z → z = a) ∧ Holds (scansionref17_one ends) D := ⟨fun z => z = a, fun _ h => h, Holds.intro e rfl⟩
  dsimp only [scansionref17_one] at hr
  change wpCode _ _ _ _ _ ⟨[(0, .cv (.val (.sl (List.map eS ends))))], h.on []⟩
  refine w_seq ?_
  refine A_region ?_
  refine w_n ?_
  refine w_seq ?_
  refine A_region ?_
  refine w_n ?_
  refine w_seq ?_
  refine w_seq ?_
  refine A_region ?_
  refine w_n ?_
  refine w_K (D := D) (fun xX : Str => ⟨[(3, .cv (.val (.str (bs xX))))], h.on []⟩) (fun xX : Str => scansionref17_one.k1 xX) (fun xX s' hr ht => ?_) ?_
  · obtain ⟨s, rfl⟩ : ∃ z, z = xX := ⟨xX, rfl⟩
    dsimp only [scansionref17_one.k1] at hr ht
    refine (w_nT ht ?_)
    refine w_seq ?_
    refine A_region ?_
    refine w_n ?_
    refine w_ret ?_
    obtain rfl := hD _ hr
    exact (A_endR (A_cut (os' := []) (sl := [(2, .cv (.val (.str (bs s))))]) hwf) ⟨rfl, on_nil hwf⟩)
  · refine w_block ?_
    refine w_Loop (fun xX : (Str × Int) => ⟨[(0, .cv (.val (.sl (List.map eS ends)))), (3, .cv (.val (.str (bs xX.1)))), (4, .cv (.val (.int .i64 xX.2)))], h.on []⟩) hr (A_cut hwf) (fun W1 xX hr => ?_)
    obtain ⟨s1, i⟩ := xX
    dsimp only [scansionref17_one.b1] at hr
    refine w_seq ?_
    refine w_seq ?_
    refine A_region ?_
    refine w_n ?_
    refine A_condH hr (fun cF1 hr => ?_) (fun cF1 hr => ?_)
    · refine w_skip ?_
      refine w_n ?_
      refine w_seq ?_
      refine w_block ?_
      refine w_drawn [0, 1, 2, 3, 4, 5, 6, 7, 8, 9, 10, 11, 12, 13, 14, 15] (by rfl) ?_
      obtain ⟨s2, nF2, eF3, gF4, hr⟩ := hr.idx
      obtain ⟨nF5, hr⟩ := hr.roomS
      obtain ⟨nF6, hr⟩ := hr.roomS
      refine p_run (l := [0, 1, 2, 3, 4, 5, 6, 7, 8, 9, 10, 11, 12, 13, 14]) (pend' := [14, 13, 12, 11, 10, 9, 8, 7, 6, 5, 4, 3, 2, 1, 0]) (by simp (disch := (apply Apart.mk; decide)) only [go_sem, Nat.reduceAdd, Nat.reduceLT, Nat.reduceMul, Nat.reduceLeDiff, Int.reduceToNat, Int.reduceLT, Int.reduceLE, nF2, eF3, gF4, nF5, nF6]; rfl) rfl ?_
      refine p_op (pend' := []) rfl (by simp (disch := (apply Apart.mk; decide)) only [go_sem, Nat.reduceAdd, Nat.reduceLT, Nat.reduceMul, Nat.reduceLeDiff, Int.reduceToNat, Int.reduceLT, Int.reduceLE, nF2, eF3, gF4, nF5, nF6]) (by simp (disch := (apply Apart.mk; decide)) only [go_sem, Nat.reduceAdd, Nat.reduceLT, Nat.reduceMul, Nat.reduceLeDiff, Int.reduceToNat, Int.reduceLT, Int.reduceLE, nF2, eF3, gF4, nF5, nF6]; rfl) (by rfl) ?_
      refine p_end (by simp (disch := (apply Apart.mk; decide)) only [go_sem, Nat.reduceAdd, Nat.reduceLT, Nat.reduceMul, Nat.reduceLeDiff, Int.reduceToNat, Int.reduceLT, Int.reduceLE, nF2, eF3, gF4, nF5, nF2, eF3, gF4, nF6]) ?_
      refine (w_bn (w_n ?_))
      refine A_region ?_
      exact (w_k ⟨(((s1 ++ ([(u8 (IntKind.u8.wrap (s2.length : Int)))])) ++ s2), (IntKind.i64.wrap (i + (1 : Int)))), hr, (A_cut hwf)⟩)
    · refine w_exit ?_
      exact (w_te (w_te (w_bx (w_k ⟨s1, (hr).map, (A_cut hwf)⟩))))
end Go.Val

/- part GW75 -/
/- scansion/scansionref17.behind runs as it is read off. -/
namespace Go.Val
set_option linter.unusedVariables false
set_option linter.unusedSimpArgs false
set_option maxRecDepth 20000
open Go.Proofs
theorem scansionref17_behind_runs (ends : List Str) (b : UInt8) {h : Heap} {a : List Str} (e : scansionref17_behind ends b = some a) :
    Runs CT 75 [.cv (.val (.sl (List.map eS ends))), .cv (.val (.int .u8 (b.toNat : Int)))] h fun o h' => o = [.cv (.val (.sl (List.map eS a)))] ∧ h' = h := by
  refine Runs.start Try.f75 _ Try.func75 rfl (by rw [Try.ntmps75]; simp) (by rfl) (by rfl) (fun hwf hu => ?_)
  obtain ⟨D, hD, hr⟩ : ∃ D : List Str → Prop, (∀ z, D z → z = a) ∧ Holds (scansionref17_behind ends b) D := ⟨fun z => z = a, fun _ h => h, Holds.intro e rfl⟩
  dsimp only [scansionref17_behind] at hr
  change wpCode _ _ _ _ _ ⟨[(0, .cv (.val (.sl (List.map eS ends)))), (1, .cv (.val (.int .u8 (b.toNat : Int))))], h.on []⟩
  refine w_seq ?_
  refine A_region ?_
  refine w_n ?_
  refine w_seq ?_
  refine A_region ?_
  refine w_n ?_
  refine w_seq ?_
  refine w_seq ?_
  refine A_region ?_
  refine w_n ?_
  refine w_K (D := D) (fun xX : List Str => ⟨[(5, .cv (.row 9 (List.map eS xX)))], h.on []⟩) (fun xX : List Str => scansionref17_behind.k1 xX) (fun xX s' hr ht => ?_) ?_
  · obtain ⟨out, rfl⟩ : ∃ z, z = xX := ⟨xX, rfl⟩
    dsimp only [scansionref17_behind.k1] at hr ht
    refine (w_nT ht ?_)
    refine w_seq ?_
    refine A_region ?_
    refine w_n ?_
    refine w_ret ?_
    obtain rfl := hD _ hr
    exact (A_endR (.fix _ _ (.slot 4) 9 _ (by simp (disch := (apply Apart.mk; decide)) only [go_sem, Nat.reduceAdd, Nat.reduceLT, Nat.reduceMul, Nat.reduceLeDiff, Int.reduceToNat, Int.reduceLT, Int.reduceLE]; rfl) (A_cut (os' := []) (sl := [(4, .cv (.val (.sl (List.map eS out))))]) hwf)) ⟨rfl, on_nil hwf⟩)
  · refine w_block ?_
    refine w_Loop (fun xX : (List Str × Int) => ⟨[(0, .cv (.val (.sl (List.map eS ends)))), (1, .cv (.val (.int .u8 (b.toNat : Int)))), (5, .cv (.row 9 (List.map eS xX.1))), (6, .cv (.val (.int .i64 xX.2)))], h.on []⟩) hr (A_cut hwf) (fun W1 xX hr => ?_)
    obtain ⟨out1, i⟩ := xX
    dsimp only [scansionref17_behind.b1] at hr
    refine w_seq ?_
    refine w_seq ?_
    refine A_region ?_
    refine w_n ?_
    refine A_condH hr (fun cF1 hr => ?_) (fun cF1 hr => ?_)
    · refine w_skip ?_
      refine w_n ?_
      refine w_seq ?_
      refine w_K (D := (Aft W1 D)) (fun xX : List Str => ⟨[(0, .cv (.val (.sl (List.map eS ends)))), (1, .cv (.val (.int .u8 (b.toNat : Int)))), (5, .cv (.row 9 (List.map eS xX))), (6, .cv (.val (.int .i64 i)))], h.on []⟩) (fun xX : List Str => scansionref17_behind.k2 i xX) (fun xX s' hr ht => ?_) ?_
      · obtain ⟨out2, rfl⟩ : ∃ z, z = xX := ⟨xX, rfl⟩
        dsimp only [scansionref17_behind.k2] at hr ht
        refine (w_nT ht ?_)
        refine A_region ?_
        exact (w_k ⟨(out2, (IntKind.i64.wrap (i + (1 : Int)))), hr, (A_cut hwf)⟩)
      · refine w_block ?_
        obtain ⟨v, vF8, hr⟩ := hr.bind
        refine w_joinR (sj := ⟨[(0, .cv (.val (.sl (List.map eS ends)))), (1, .cv (.val (.int .u8 (b.toNat : Int)))), (5, .cv (.row 9 (List.map eS out1))), (6, .cv (.val (.int .i64 i))), (27, .cv (.val (.bool v)))], h.on []⟩) (A_ops ?_) ?_
        · have hr := Holds.intro (D := fun z => z = v) vF8 rfl
          obtain ⟨s, nF2, eF3, gF4, hr⟩ := hr.idx
          refine A_upto 7 ?_
          rcases hr.ite with ⟨cF5, hr⟩ | ⟨cF5, hr⟩
          · obtain ⟨c, eF6, gF7, hr⟩ := hr.idxK
            refine A_ops_end ?_
            obtain rfl : _ = v := hr
            exact w_k (A_cut hwf)
          · refine A_ops_end ?_
            obtain rfl : _ = v := hr
            exact w_k (A_cut hwf)
        refine A_condH hr (fun cF9 hr => ?_) (fun cF9 hr => ?_)
        · obtain ⟨s1, nF10, eF11, gF12, hr⟩ := hr.idx
          obtain ⟨nF13, nF14, hr⟩ := hr.cutL
          obtain ⟨nF15, hr⟩ := hr.room
          refine A_region ?_
          exact (w_bn (w_k ⟨(out1 ++ ([(List.drop (Int.toNat (1 : Int)) s1)])), hr, (A_cut hwf)⟩))
        · refine w_skip ?_
          exact (w_bn (w_k ⟨out1, hr, (A_cut hwf)⟩))
    · refine w_exit ?_
      exact (w_te (w_te (w_bx (w_k ⟨out1, (hr).map, (A_cut hwf)⟩))))
end Go.Val

/- part GW51 -/
/- (*scansion/scansionref17.maker).state runs as it is read off. -/
namespace Go.Val
set_option linter.unusedVariables false
set_option linter.unusedSimpArgs false
set_option maxRecDepth 20000
open Go.Proofs
theorem scansionref17_maker_state_runs_r : ∀ (fu : Nat) (m : Tscansionref17_maker) (ends : List Str) (l0 : Nat) {h : Heap} (ha0 : h.at_ l0 = some (.cells [.row 4 (List.map eB m.g.Final), .row 35 (List.map (eL eEdge) m.g.Edges), .row 9 (List.map eS m.ends)])) {a : (Int × Tscansionref17_maker)} (e : scansionref17_maker_state.r fu m ends = some a),
    Runs CT 51 [.cv (.val (.ptr (some (l0, 0)))), .cv (.val (.sl (List.map eS ends)))] h fun o h' => o = [.cv (.val (.int .i64 a.1))] ∧ h' = (h.upd l0 (.cells [.row 4 (List.map eB a.2.g.Final), .row 35 (List.map (eL eEdge) a.2.g.Edges), .row 9 (List.map eS a.2.ends)])) := by
  intro fu
  induction fu with
  | zero => intros; rename_i e; simp [scansionref17_maker_state.r] at e
  | succ fu ih =>
    intro m ends l0 h ha0 a e
    refine Runs.start Try.f51 _ Try.func51 rfl (by rw [Try.ntmps51]; simp) (by rfl) (by rfl) (fun hwf hu => ?_)
    have hl0 := (hwf _ _ ha0).1
    have kl0 := locF hl0
    obtain ⟨D, hD, hr⟩ : ∃ D : (Int × Tscansionref17_maker) → Prop, (∀ z, D z → z = a) ∧ Holds (scansionref17_maker_state.r (fu + 1) m ends) D := ⟨fun z => z = a, fun _ h => h, Holds.intro e rfl⟩
    dsimp only [scansionref17_maker_state.r] at hr
    change wpCode _ _ _ _ _ ⟨[(0, .cv (.val (.ptr (some (l0, 0))))), (1, .cv (.val (.sl (List.map eS ends))))], h.on []⟩
    refine w_seq ?_
    refine w_region rfl (by simp (disch := (apply Apart.mk; decide)) only [go_sem, Nat.reduceAdd, Nat.reduceLT, Nat.reduceMul, Nat.reduceLeDiff, Int.reduceToNat, Int.reduceLT, Int.reduceLE, ha0, on_atB hl0, lt_add hl0, lt_at hl0, on_updB hl0, on_atU hl0, on_updU hl0, upd_same ha0]; rfl) ?_
    refine w_n ?_
    refine w_seq ?_
    refine A_ops ?_
    refine w_upto 1 rfl (by simp (disch := (apply Apart.mk; decide)) only [go_sem, Nat.reduceAdd, Nat.reduceLT, Nat.reduceMul, Nat.reduceLeDiff, Int.reduceToNat, Int.reduceLT, Int.reduceLE, ha0, on_atB hl0, lt_add hl0, lt_at hl0, on_updB hl0, on_atU hl0, on_updU hl0, upd_same ha0]; rfl) ?_
    obtain ⟨r, eF1, hr⟩ := hr.bind
    refine w_call' (out := ?o_eF1) (hp := ?p_eF1) rfl (by simp (disch := (apply Apart.mk; decide)) only [go_sem, Nat.reduceAdd, Nat.reduceLT, Nat.reduceMul, Nat.reduceLeDiff, Int.reduceToNat, Int.reduceLT, Int.reduceLE, ha0, on_atB hl0, lt_add hl0, lt_at hl0, on_updB hl0, on_atU hl0, on_updU hl0, upd_same ha0, Option.getD_some]; rfl) (by simp (disch := (apply Apart.mk; decide)) only [go_sem, Nat.reduceAdd, Nat.reduceLT, Nat.reduceMul, Nat.reduceLeDiff, Int.reduceToNat, Int.reduceLT, Int.reduceLE, ha0, on_atB hl0, lt_add hl0, lt_at hl0, on_updB hl0, on_atU hl0, on_updU hl0, upd_same ha0, Option.getD_some]; rfl) (by simp (disch := (apply Apart.mk; decide)) only [go_sem, Nat.reduceAdd, Nat.reduceLT, Nat.reduceMul, Nat.reduceLeDiff, Int.reduceToNat, Int.reduceLT, Int.reduceLE, ha0, on_atB hl0, lt_add hl0, lt_at hl0, on_updB hl0, on_atU hl0, on_updU hl0, upd_same ha0, Option.getD_some]; rfl) ?c_eF1 ?d_eF1 ?_
    case c_eF1 => exact scansionref17_one_runs ends eF1
    case d_eF1 => rfl
    refine w_ops_end (by simp (disch := (apply Apart.mk; decide)) only [go_sem, Nat.reduceAdd, Nat.reduceLT, Nat.reduceMul, Nat.reduceLeDiff, Int.reduceToNat, Int.reduceLT, Int.reduceLE, ha0, on_atB hl0, lt_add hl0, lt_at hl0, on_updB hl0, on_atU hl0, on_updU hl0, upd_same ha0]; rfl) ?_
    refine w_n ?_
    refine w_seq ?_
    refine w_seq ?_
    refine w_region rfl (by simp (disch := (apply Apart.mk; decide)) only [go_sem, Nat.reduceAdd, Nat.reduceLT, Nat.reduceMul, Nat.reduceLeDiff, Int.reduceToNat, Int.reduceLT, Int.reduceLE, ha0, on_atB hl0, lt_add hl0, lt_at hl0, on_updB hl0, on_atU hl0, on_updU hl0, upd_same ha0]; rfl) ?_
    refine w_n ?_
    refine w_K (D := D) (fun xX : Unit => ⟨[(0, .cv (.val (.ptr (some (l0, 0))))), (1, .cv (.val (.sl (List.map eS ends)))), (5, .cv (.val (.str (bs r))))], h.on []⟩) (fun xX : Unit => scansionref17_maker_state.k1 (scansionref17_maker_state.r fu) m ends r) (fun xX s' hr ht => ?_) ?_
    · dsimp only [scansionref17_maker_state.k1] at hr ht
      refine (w_nT ht ?_)
      refine w_seq ?_
      refine w_region rfl (by simp (disch := (apply Apart.mk; decide)) only [go_sem, Nat.reduceAdd, Nat.reduceLT, Nat.reduceMul, Nat.reduceLeDiff, Int.reduceToNat, Int.reduceLT, Int.reduceLE, ha0, on_atB hl0, lt_add hl0, lt_at hl0, on_updB hl0, on_atU hl0, on_updU hl0, upd_same ha0]; rfl) ?_
      refine w_n ?_
      refine w_seq ?_
      refine w_seq ?_
      refine w_region rfl (by simp (disch := (apply Apart.mk; decide)) only [go_sem, Nat.reduceAdd, Nat.reduceLT, Nat.reduceMul, Nat.reduceLeDiff, Int.reduceToNat, Int.reduceLT, Int.reduceLE, ha0, on_atB hl0, lt_add hl0, lt_at hl0, on_updB hl0, on_atU hl0, on_updU hl0, upd_same ha0]; rfl) ?_
      refine w_n ?_
      refine w_K (D := D) (fun xX : (List TEdge × List Bool × List (List TEdge) × List Str) => ⟨[(0, .cv (.val (.ptr (some (l0, 0))))), (1, .cv (.val (.sl (List.map eS ends)))), (5, .cv (.val (.str (bs r)))), (7, .cv (.row 37 (List.map eEdge xX.1)))], (h.upd l0 (.cells [.row 4 (List.map eB xX.2.1), .row 35 (List.map (eL eEdge) xX.2.2.1), .row 9 (List.map eS xX.2.2.2)])).on []⟩) (fun xX : (List TEdge × List Bool × List (List TEdge) × List Str) => scansionref17_maker_state.k2 ends r xX.1 xX.2.1 xX.2.2.1 xX.2.2.2) (fun xX s' hr ht => ?_) ?_
      · obtain ⟨edges, Final, Edges, ends1⟩ := xX
        dsimp only [scansionref17_maker_state.k2] at hr ht
        refine (w_nT ht ?_)
        refine w_seq ?_
        obtain ⟨nF2, hr⟩ := hr.room
        refine w_region rfl (by simp (disch := (apply Apart.mk; decide)) only [go_sem, Nat.reduceAdd, Nat.reduceLT, Nat.reduceMul, Nat.reduceLeDiff, Int.reduceToNat, Int.reduceLT, Int.reduceLE, ha0, on_atB hl0, lt_add hl0, lt_at hl0, on_updB hl0, on_atU hl0, on_updU hl0, upd_same ha0, nF2]; rfl) ?_
        refine w_n ?_
        obtain ⟨Final1, vF8, hr⟩ := hr.bind
        refine w_joinR (sj := ⟨[(0, .cv (.val (.ptr (some (l0, 0))))), (7, .cv (.row 37 (List.map eEdge edges)))], (h.upd l0 (.cells [.row 4 (List.map eB Final1), .row 35 (List.map (eL eEdge) Edges), .row 9 (List.map eS (ends1 ++ ([r])))])).on []⟩) (w_drawn [0, 1, 2, 3, 4, 5, 6, 7, 8, 9, 10, 11, 12, 13, 14, 15, 16, 17, 18, 19, 20] (by rfl) ?_) ?_
        · have hr := Holds.intro (D := fun z => z = Final1) vF8 rfl
          refine p_run (l := [0, 1, 2, 3, 4, 5, 6, 7, 8, 9]) (pend' := [9, 8, 7, 6, 5, 4, 3, 2, 1, 0]) (by simp (disch := (apply Apart.mk; decide)) only [go_sem, Nat.reduceAdd, Nat.reduceLT, Nat.reduceMul, Nat.reduceLeDiff, Int.reduceToNat, Int.reduceLT, Int.reduceLE, ha0, on_atB hl0, lt_add hl0, lt_at hl0, on_updB hl0, on_atU hl0, on_updU hl0, upd_same ha0]; rfl) rfl ?_
          rcases hr.ite with ⟨cF3, hr⟩ | ⟨cF3, hr⟩
          · obtain ⟨s, eF4, gF5, hr⟩ := hr.idxK
            obtain ⟨nF6, hr⟩ := hr.room
            refine p_run (l := [10, 11, 12, 13, 14, 15]) (pend' := [15, 14, 13, 12, 11, 10, 9, 8, 7, 6, 5, 4, 3, 2, 1, 0]) (by simp (disch := (apply Apart.mk; decide)) only [go_sem, Nat.reduceAdd, Nat.reduceLT, Nat.reduceMul, Nat.reduceLeDiff, Int.reduceToNat, Int.reduceLT, Int.reduceLE, ha0, on_atB hl0, lt_add hl0, lt_at hl0, on_updB hl0, on_atU hl0, on_updU hl0, upd_same ha0, cF3, eF4, gF5, nF6]; rfl) rfl ?_
            refine p_op (pend' := [0]) rfl (by simp (disch := (apply Apart.mk; decide)) only [go_sem, Nat.reduceAdd, Nat.reduceLT, Nat.reduceMul, Nat.reduceLeDiff, Int.reduceToNat, Int.reduceLT, Int.reduceLE, ha0, on_atB hl0, lt_add hl0, lt_at hl0, on_updB hl0, on_atU hl0, on_updU hl0, upd_same ha0, cF3, eF4, gF5, nF6]) (by simp (disch := (apply Apart.mk; decide)) only [go_sem, Nat.reduceAdd, Nat.reduceLT, Nat.reduceMul, Nat.reduceLeDiff, Int.reduceToNat, Int.reduceLT, Int.reduceLE, ha0, on_atB hl0, lt_add hl0, lt_at hl0, on_updB hl0, on_atU hl0, on_updU hl0, upd_same ha0, cF3, eF4, gF5, nF6]; rfl) (by rfl) ?_
            refine p_run (l := [17, 18, 19]) (pend' := [19, 18, 17, 0]) (by simp (disch := (apply Apart.mk; decide)) only [go_sem, Nat.reduceAdd, Nat.reduceLT, Nat.reduceMul, Nat.reduceLeDiff, Int.reduceToNat, Int.reduceLT, Int.reduceLE, ha0, on_atB hl0, lt_add hl0, lt_at hl0, on_updB hl0, on_atU hl0, on_updU hl0, upd_same ha0, cF3, eF4, gF5, nF6]; rfl) rfl ?_
            refine p_op (pend' := []) rfl (by simp (disch := (apply Apart.mk; decide)) only [go_sem, Nat.reduceAdd, Nat.reduceLT, Nat.reduceMul, Nat.reduceLeDiff, Int.reduceToNat, Int.reduceLT, Int.reduceLE, ha0, on_atB hl0, lt_add hl0, lt_at hl0, on_updB hl0, on_atU hl0, on_updU hl0, upd_same ha0, cF3, eF4, gF5, nF6]) (by simp (disch := (apply Apart.mk; decide)) only [go_sem, Nat.reduceAdd, Nat.reduceLT, Nat.reduceMul, Nat.reduceLeDiff, Int.reduceToNat, Int.reduceLT, Int.reduceLE, ha0, on_atB hl0, lt_add hl0, lt_at hl0, on_updB hl0, on_atU hl0, on_updU hl0, upd_same ha0, cF3, eF4, gF5, nF6]; rfl) (by rfl) ?_
            refine p_end (by simp (disch := (apply Apart.mk; decide)) only [go_sem, Nat.reduceAdd, Nat.reduceLT, Nat.reduceMul, Nat.reduceLeDiff, Int.reduceToNat, Int.reduceLT, Int.reduceLE, ha0, on_atB hl0, lt_add hl0, lt_at hl0, on_updB hl0, on_atU hl0, on_updU hl0, upd_same ha0, cF3, eF4, gF5, nF6]) ?_
            obtain rfl : _ = Final1 := hr
            exact w_k (To.cut (h := (h.upd l0 (.cells [.row 4 (List.map eB (Final ++ ([(s == ([] : Str))]))), .row 35 (List.map (eL eEdge) Edges), .row 9 (List.map eS (ends1 ++ ([r])))]))) (WF.upd hwf hl0 (by simp (disch := (apply Apart.mk; decide)) only [go_sem, Nat.reduceAdd, Nat.reduceLT, Nat.reduceMul, Nat.reduceLeDiff, Int.reduceToNat, Int.reduceLT, Int.reduceLE, ha0, on_atB hl0, lt_add hl0, lt_at hl0, on_updB hl0, on_atU hl0, on_updU hl0, upd_same ha0])) (Nat.le_refl _) (by first | rfl | (simp (disch := (apply Apart.mk; decide)) only [go_sem, Nat.reduceAdd, Nat.reduceLT, Nat.reduceMul, Nat.reduceLeDiff, Int.reduceToNat, Int.reduceLT, Int.reduceLE, ha0, on_atB hl0, lt_add hl0, lt_at hl0, on_updB hl0, on_atU hl0, on_updU hl0, upd_same ha0, cF3]; rfl)) (by simp (disch := (apply Apart.mk; decide)) only [go_sem, Nat.reduceAdd, Nat.reduceLT, Nat.reduceMul, Nat.reduceLeDiff, Int.reduceToNat, Int.reduceLT, Int.reduceLE, ha0, on_atB hl0, lt_add hl0, lt_at hl0, on_updB hl0, on_atU hl0, on_updU hl0, upd_same ha0, cF3]))
          · obtain ⟨nF7, hr⟩ := hr.room
            refine p_run (l := [10, 11, 12, 13, 14, 15]) (pend' := [15, 14, 13, 12, 11, 10, 9, 8, 7, 6, 5, 4, 3, 2, 1, 0]) (by simp (disch := (apply Apart.mk; decide)) only [go_sem, Nat.reduceAdd, Nat.reduceLT, Nat.reduceMul, Nat.reduceLeDiff, Int.reduceToNat, Int.reduceLT, Int.reduceLE, ha0, on_atB hl0, lt_add hl0, lt_at hl0, on_updB hl0, on_atU hl0, on_updU hl0, upd_same ha0, cF3, nF7]; rfl) rfl ?_
            refine p_op (pend' := [0]) rfl (by simp (disch := (apply Apart.mk; decide)) only [go_sem, Nat.reduceAdd, Nat.reduceLT, Nat.reduceMul, Nat.reduceLeDiff, Int.reduceToNat, Int.reduceLT, Int.reduceLE, ha0, on_atB hl0, lt_add hl0, lt_at hl0, on_updB hl0, on_atU hl0, on_updU hl0, upd_same ha0, cF3, nF7]) (by simp (disch := (apply Apart.mk; decide)) only [go_sem, Nat.reduceAdd, Nat.reduceLT, Nat.reduceMul, Nat.reduceLeDiff, Int.reduceToNat, Int.reduceLT, Int.reduceLE, ha0, on_atB hl0, lt_add hl0, lt_at hl0, on_updB hl0, on_atU hl0, on_updU hl0, upd_same ha0, cF3, nF7]; rfl) (by rfl) ?_
            refine p_run (l := [17, 18, 19]) (pend' := [19, 18, 17, 0]) (by simp (disch := (apply Apart.mk; decide)) only [go_sem, Nat.reduceAdd, Nat.reduceLT, Nat.reduceMul, Nat.reduceLeDiff, Int.reduceToNat, Int.reduceLT, Int.reduceLE, ha0, on_atB hl0, lt_add hl0, lt_at hl0, on_updB hl0, on_atU hl0, on_updU hl0, upd_same ha0, cF3, nF7]; rfl) rfl ?_
            refine p_op (pend' := []) rfl (by simp (disch := (apply Apart.mk; decide)) only [go_sem, Nat.reduceAdd, Nat.reduceLT, Nat.reduceMul, Nat.reduceLeDiff, Int.reduceToNat, Int.reduceLT, Int.reduceLE, ha0, on_atB hl0, lt_add hl0, lt_at hl0, on_updB hl0, on_atU hl0, on_updU hl0, upd_same ha0, cF3, nF7]) (by simp (disch := (apply Apart.mk; decide)) only [go_sem, Nat.reduceAdd, Nat.reduceLT, Nat.reduceMul, Nat.reduceLeDiff, Int.reduceToNat, Int.reduceLT, Int.reduceLE, ha0, on_atB hl0, lt_add hl0, lt_at hl0, on_updB hl0, on_atU hl0, on_updU hl0, upd_same ha0, cF3, nF7]; rfl) (by rfl) ?_
            refine p_end (by simp (disch := (apply Apart.mk; decide)) only [go_sem, Nat.reduceAdd, Nat.reduceLT, Nat.reduceMul, Nat.reduceLeDiff, Int.reduceToNat, Int.reduceLT, Int.reduceLE, ha0, on_atB hl0, lt_add hl0, lt_at hl0, on_updB hl0, on_atU hl0, on_updU hl0, upd_same ha0, cF3, nF7]) ?_
            obtain rfl : _ = Final1 := hr
            exact w_k (To.cut (h := (h.upd l0 (.cells [.row 4 (List.map eB (Final ++ ([false]))), .row 35 (List.map (eL eEdge) Edges), .row 9 (List.map eS (ends1 ++ ([r])))]))) (WF.upd hwf hl0 (by simp (disch := (apply Apart.mk; decide)) only [go_sem, Nat.reduceAdd, Nat.reduceLT, Nat.reduceMul, Nat.reduceLeDiff, Int.reduceToNat, Int.reduceLT, Int.reduceLE, ha0, on_atB hl0, lt_add hl0, lt_at hl0, on_updB hl0, on_atU hl0, on_updU hl0, upd_same ha0])) (Nat.le_refl _) (by first | rfl | (simp (disch := (apply Apart.mk; decide)) only [go_sem, Nat.reduceAdd, Nat.reduceLT, Nat.reduceMul, Nat.reduceLeDiff, Int.reduceToNat, Int.reduceLT, Int.reduceLE, ha0, on_atB hl0, lt_add hl0, lt_at hl0, on_updB hl0, on_atU hl0, on_updU hl0, upd_same ha0, cF3]; rfl)) (by simp (disch := (apply Apart.mk; decide)) only [go_sem, Nat.reduceAdd, Nat.reduceLT, Nat.reduceMul, Nat.reduceLeDiff, Int.reduceToNat, Int.reduceLT, Int.reduceLE, ha0, on_atB hl0, lt_add hl0, lt_at hl0, on_updB hl0, on_atU hl0, on_updU hl0, upd_same ha0, cF3]))
        refine w_seq ?_
        obtain ⟨nF9, hr⟩ := hr.room
        refine w_region rfl (by simp (disch := (apply Apart.mk; decide)) only [go_sem, Nat.reduceAdd, Nat.reduceLT, Nat.reduceMul, Nat.reduceLeDiff, Int.reduceToNat, Int.reduceLT, Int.reduceLE, ha0, on_atB hl0, lt_add hl0, lt_at hl0, on_updB hl0, on_atU hl0, on_updU hl0, upd_same ha0, nF9]; rfl) ?_
        refine w_n ?_
        refine w_seq ?_
        refine w_region rfl (by simp (disch := (apply Apart.mk; decide)) only [go_sem, Nat.reduceAdd, Nat.reduceLT, Nat.reduceMul, Nat.reduceLeDiff, Int.reduceToNat, Int.reduceLT, Int.reduceLE, ha0, on_atB hl0, lt_add hl0, lt_at hl0, on_updB hl0, on_atU hl0, on_updU hl0, upd_same ha0]; rfl) ?_
        refine w_n ?_
        refine w_ret ?_
        obtain rfl := hD _ hr
        exact (w_endR (To.cut (os' := []) (sl := [(4, .cv (.val (.int .i64 (IntKind.i64.wrap (((ends1 ++ ([r])).length : Int) - (1 : Int))))))]) (h := (h.upd l0 (.cells [.row 4 (List.map eB Final1), .row 35 (List.map (eL eEdge) (Edges ++ ([edges]))), .row 9 (List.map eS (ends1 ++ ([r])))]))) (WF.upd hwf hl0 (by simp (disch := (apply Apart.mk; decide)) only [go_sem, Nat.reduceAdd, Nat.reduceLT, Nat.reduceMul, Nat.reduceLeDiff, Int.reduceToNat, Int.reduceLT, Int.reduceLE, ha0, on_atB hl0, lt_add hl0, lt_at hl0, on_updB hl0, on_atU hl0, on_updU hl0, upd_same ha0])) (Nat.le_refl _) (by first | rfl | (simp (disch := (apply Apart.mk; decide)) only [go_sem, Nat.reduceAdd, Nat.reduceLT, Nat.reduceMul, Nat.reduceLeDiff, Int.reduceToNat, Int.reduceLT, Int.reduceLE, ha0, on_atB hl0, lt_add hl0, lt_at hl0, on_updB hl0, on_atU hl0, on_updU hl0, upd_same ha0]; rfl)) (by simp (disch := (apply Apart.mk; decide)) only [go_sem, Nat.reduceAdd, Nat.reduceLT, Nat.reduceMul, Nat.reduceLeDiff, Int.reduceToNat, Int.reduceLT, Int.reduceLE, ha0, on_atB hl0, lt_add hl0, lt_at hl0, on_updB hl0, on_atU hl0, on_updU hl0, upd_same ha0])) (by simp (disch := (apply Apart.mk; decide)) only [go_sem, Nat.reduceAdd, Nat.reduceLT, Nat.reduceMul, Nat.reduceLeDiff, Int.reduceToNat, Int.reduceLT, Int.reduceLE, ha0, on_atB hl0, lt_add hl0, lt_at hl0, on_updB hl0, on_atU hl0, on_updU hl0, upd_same ha0, Try.results51, results_data CT_gives51, resCell, resVal.eq_2, loadOp_sv]) ⟨rfl, on_nil (h := (h.upd l0 (.cells [.row 4 (List.map eB Final1), .row 35 (List.map (eL eEdge) (Edges ++ ([edges]))), .row 9 (List.map eS (ends1 ++ ([r])))]))) (WF.upd hwf hl0 (by simp (disch := (apply Apart.mk; decide)) only [go_sem, Nat.reduceAdd, Nat.reduceLT, Nat.reduceMul, Nat.reduceLeDiff, Int.reduceToNat, Int.reduceLT, Int.reduceLE, ha0, on_atB hl0, lt_add hl0, lt_at hl0, on_updB hl0, on_atU hl0, on_updU hl0, upd_same ha0]))⟩)
      · refine w_block ?_
        refine w_Loop (fun xX : (List TEdge × Int × List Bool × List (List TEdge) × List Str) => ⟨[(0, .cv (.val (.ptr (some (l0, 0))))), (1, .cv (.val (.sl (List.map eS ends)))), (5, .cv (.val (.str (bs r)))), (7, .cv (.row 37 (List.map eEdge xX.1))), (8, .cv (.val (.int .i64 xX.2.1)))], (h.upd l0 (.cells [.row 4 (List.map eB xX.2.2.1), .row 35 (List.map (eL eEdge) xX.2.2.2.1), .row 9 (List.map eS xX.2.2.2.2)])).on []⟩) hr (To.cut (h := (h.upd l0 (.cells [.row 4 (List.map eB m.g.Final), .row 35 (List.map (eL eEdge) m.g.Edges), .row 9 (List.map eS m.ends)]))) (WF.upd hwf hl0 (by simp (disch := (apply Apart.mk; decide)) only [go_sem, Nat.reduceAdd, Nat.reduceLT, Nat.reduceMul, Nat.reduceLeDiff, Int.reduceToNat, Int.reduceLT, Int.reduceLE, ha0, on_atB hl0, lt_add hl0, lt_at hl0, on_updB hl0, on_atU hl0, on_updU hl0, upd_same ha0])) (Nat.le_refl _) (by first | rfl | (simp (disch := (apply Apart.mk; decide)) only [go_sem, Nat.reduceAdd, Nat.reduceLT, Nat.reduceMul, Nat.reduceLeDiff, Int.reduceToNat, Int.reduceLT, Int.reduceLE, ha0, on_atB hl0, lt_add hl0, lt_at hl0, on_updB hl0, on_atU hl0, on_updU hl0, upd_same ha0]; rfl)) (by simp (disch := (apply Apart.mk; decide)) only [go_sem, Nat.reduceAdd, Nat.reduceLT, Nat.reduceMul, Nat.reduceLeDiff, Int.reduceToNat, Int.reduceLT, Int.reduceLE, ha0, on_atB hl0, lt_add hl0, lt_at hl0, on_updB hl0, on_atU hl0, on_updU hl0, upd_same ha0])) (fun W1 xX hr => ?_)
        obtain ⟨edges1, c, Final2, Edges1, ends2⟩ := xX
        dsimp only [scansionref17_maker_state.b1] at hr
        refine w_seq ?_
        refine w_seq ?_
        refine w_region rfl (by simp (disch := (apply Apart.mk; decide)) only [go_sem, Nat.reduceAdd, Nat.reduceLT, Nat.reduceMul, Nat.reduceLeDiff, Int.reduceToNat, Int.reduceLT, Int.reduceLE, ha0, on_atB hl0, lt_add hl0, lt_at hl0, on_updB hl0, on_atU hl0, on_updU hl0, upd_same ha0]; rfl) ?_
        refine w_n ?_
        refine w_condH (by simp (disch := (apply Apart.mk; decide)) only [go_sem, Nat.reduceAdd, Nat.reduceLT, Nat.reduceMul, Nat.reduceLeDiff, Int.reduceToNat, Int.reduceLT, Int.reduceLE, ha0, on_atB hl0, lt_add hl0, lt_at hl0, on_updB hl0, on_atU hl0, on_updU hl0, upd_same ha0]) hr (fun cF10 hr => ?_) (fun cF10 hr => ?_)
        · refine w_skip ?_
          refine w_n ?_
          refine w_seq ?_
          refine w_K (D := (Aft W1 D)) (fun xX : (List TEdge × List Bool × List (List TEdge) × List Str) => ⟨[(0, .cv (.val (.ptr (some (l0, 0))))), (1, .cv (.val (.sl (List.map eS ends)))), (5, .cv (.val (.str (bs r)))), (7, .cv (.row 37 (List.map eEdge xX.1))), (8, .cv (.val (.int .i64 c)))], (h.upd l0 (.cells [.row 4 (List.map eB xX.2.1), .row 35 (List.map (eL eEdge) xX.2.2.1), .row 9 (List.map eS xX.2.2.2)])).on []⟩) (fun xX : (List TEdge × List Bool × List (List TEdge) × List Str) => scansionref17_maker_state.k3 c xX.1 xX.2.1 xX.2.2.1 xX.2.2.2) (fun xX s' hr ht => ?_) ?_
          · obtain ⟨edges2, Final3, Edges2, ends3⟩ := xX
            dsimp only [scansionref17_maker_state.k3] at hr ht
            refine (w_nT ht ?_)
            refine w_region rfl (by simp (disch := (apply Apart.mk; decide)) only [go_sem, Nat.reduceAdd, Nat.reduceLT, Nat.reduceMul, Nat.reduceLeDiff, Int.reduceToNat, Int.reduceLT, Int.reduceLE, ha0, on_atB hl0, lt_add hl0, lt_at hl0, on_updB hl0, on_atU hl0, on_updU hl0, upd_same ha0, cF10]; rfl) ?_
            exact (w_k ⟨(edges2, (IntKind.i64.wrap (c + (1 : Int))), Final3, Edges2, ends3), hr, (To.cut (h := (h.upd l0 (.cells [.row 4 (List.map eB Final3), .row 35 (List.map (eL eEdge) Edges2), .row 9 (List.map eS ends3)]))) (WF.upd hwf hl0 (by simp (disch := (apply Apart.mk; decide)) only [go_sem, Nat.reduceAdd, Nat.reduceLT, Nat.reduceMul, Nat.reduceLeDiff, Int.reduceToNat, Int.reduceLT, Int.reduceLE, ha0, on_atB hl0, lt_add hl0, lt_at hl0, on_updB hl0, on_atU hl0, on_updU hl0, upd_same ha0])) (Nat.le_refl _) (by first | rfl | (simp (disch := (apply Apart.mk; decide)) only [go_sem, Nat.reduceAdd, Nat.reduceLT, Nat.reduceMul, Nat.reduceLeDiff, Int.reduceToNat, Int.reduceLT, Int.reduceLE, ha0, on_atB hl0, lt_add hl0, lt_at hl0, on_updB hl0, on_atU hl0, on_updU hl0, upd_same ha0, cF10]; rfl)) (by simp (disch := (apply Apart.mk; decide)) only [go_sem, Nat.reduceAdd, Nat.reduceLT, Nat.reduceMul, Nat.reduceLeDiff, Int.reduceToNat, Int.reduceLT, Int.reduceLE, ha0, on_atB hl0, lt_add hl0, lt_at hl0, on_updB hl0, on_atU hl0, on_updU hl0, upd_same ha0, cF10]))⟩)
          · refine w_block ?_
            refine w_seq ?_
            refine A_ops ?_
            refine w_upto 3 rfl (by simp (disch := (apply Apart.mk; decide)) only [go_sem, Nat.reduceAdd, Nat.reduceLT, Nat.reduceMul, Nat.reduceLeDiff, Int.reduceToNat, Int.reduceLT, Int.reduceLE, ha0, on_atB hl0, lt_add hl0, lt_at hl0, on_updB hl0, on_atU hl0, on_updU hl0, upd_same ha0]; rfl) ?_
            obtain ⟨r1, eF11, hr⟩ := hr.bind
            refine w_call' (out := ?o_eF11) (hp := ?p_eF11) rfl (by simp (disch := (apply Apart.mk; decide)) only [go_sem, Nat.reduceAdd, Nat.reduceLT, Nat.reduceMul, Nat.reduceLeDiff, Int.reduceToNat, Int.reduceLT, Int.reduceLE, ha0, on_atB hl0, lt_add hl0, lt_at hl0, on_updB hl0, on_atU hl0, on_updU hl0, upd_same ha0, Option.getD_some]; rfl) (by simp (disch := (apply Apart.mk; decide)) only [go_sem, Nat.reduceAdd, Nat.reduceLT, Nat.reduceMul, Nat.reduceLeDiff, Int.reduceToNat, Int.reduceLT, Int.reduceLE, ha0, on_atB hl0, lt_add hl0, lt_at hl0, on_updB hl0, on_atU hl0, on_updU hl0, upd_same ha0, Option.getD_some]; rfl) (by simp (disch := (apply Apart.mk; decide)) only [go_sem, Nat.reduceAdd, Nat.reduceLT, Nat.reduceMul, Nat.reduceLeDiff, Int.reduceToNat, Int.reduceLT, Int.reduceLE, ha0, on_atB hl0, lt_add hl0, lt_at hl0, on_updB hl0, on_atU hl0, on_updU hl0, upd_same ha0, Option.getD_some]; rfl) ?c_eF11 ?d_eF11 ?_
            case c_eF11 => (rw [show ((IntKind.u8.wrap c) : Int) = ((u8 (IntKind.u8.wrap c)).toNat : Int) from u8_wrap.symm]; exact scansionref17_behind_runs ends (u8 (IntKind.u8.wrap c)) eF11)
            case d_eF11 => rfl
            refine w_ops_end (by simp (disch := (apply Apart.mk; decide)) only [go_sem, Nat.reduceAdd, Nat.reduceLT, Nat.reduceMul, Nat.reduceLeDiff, Int.reduceToNat, Int.reduceLT, Int.reduceLE, ha0, on_atB hl0, lt_add hl0, lt_at hl0, on_updB hl0, on_atU hl0, on_updU hl0, upd_same ha0]; rfl) ?_
            refine w_n ?_
            refine w_seq ?_
            refine w_region rfl (by simp (disch := (apply Apart.mk; decide)) only [go_sem, Nat.reduceAdd, Nat.reduceLT, Nat.reduceMul, Nat.reduceLeDiff, Int.reduceToNat, Int.reduceLT, Int.reduceLE, ha0, on_atB hl0, lt_add hl0, lt_at hl0, on_updB hl0, on_atU hl0, on_updU hl0, upd_same ha0, cF10]; rfl) ?_
            refine w_n ?_
            refine w_condH (by simp (disch := (apply Apart.mk; decide)) only [go_sem, Nat.reduceAdd, Nat.reduceLT, Nat.reduceMul, Nat.reduceLeDiff, Int.reduceToNat, Int.reduceLT, Int.reduceLE, ha0, on_atB hl0, lt_add hl0, lt_at hl0, on_updB hl0, on_atU hl0, on_updU hl0, upd_same ha0, cF10]) hr (fun cF12 hr => ?_) (fun cF12 hr => ?_)
            · refine A_ops ?_
              refine w_upto 5 rfl (by simp (disch := (apply Apart.mk; decide)) only [go_sem, Nat.reduceAdd, Nat.reduceLT, Nat.reduceMul, Nat.reduceLeDiff, Int.reduceToNat, Int.reduceLT, Int.reduceLE, ha0, on_atB hl0, lt_add hl0, lt_at hl0, on_updB hl0, on_atU hl0, on_updU hl0, upd_same ha0]; rfl) ?_
              obtain ⟨r2, eF13, hr⟩ := hr.bind
              refine w_call' (out := ?o_eF13) (hp := ?p_eF13) rfl (by simp (disch := (apply Apart.mk; decide)) only [go_sem, Nat.reduceAdd, Nat.reduceLT, Nat.reduceMul, Nat.reduceLeDiff, Int.reduceToNat, Int.reduceLT, Int.reduceLE, ha0, on_atB hl0, lt_add hl0, lt_at hl0, on_updB hl0, on_atU hl0, on_updU hl0, upd_same ha0, Option.getD_some]; rfl) (by simp (disch := (apply Apart.mk; decide)) only [go_sem, Nat.reduceAdd, Nat.reduceLT, Nat.reduceMul, Nat.reduceLeDiff, Int.reduceToNat, Int.reduceLT, Int.reduceLE, ha0, on_atB hl0, lt_add hl0, lt_at hl0, on_updB hl0, on_atU hl0, on_updU hl0, upd_same ha0, Option.getD_some]; rfl) (by simp (disch := (apply Apart.mk; decide)) only [go_sem, Nat.reduceAdd, Nat.reduceLT, Nat.reduceMul, Nat.reduceLeDiff, Int.reduceToNat, Int.reduceLT, Int.reduceLE, ha0, on_atB hl0, lt_add hl0, lt_at hl0, on_updB hl0, on_atU hl0, on_updU hl0, upd_same ha0, Option.getD_some]; rfl) ?c_eF13 ?d_eF13 ?_
              case c_eF13 => (refine ih (Tscansionref17_maker.mk (TGraph.mk Final2 Edges1) ends2) r1 (l0) ?_ eF13; (simp (disch := (apply Apart.mk; decide)) only [go_sem, Nat.reduceAdd, Nat.reduceLT, Nat.reduceMul, Nat.reduceLeDiff, Int.reduceToNat, Int.reduceLT, Int.reduceLE, ha0, on_atB hl0, lt_add hl0, lt_at hl0, on_updB hl0, on_atU hl0, on_updU hl0, upd_same ha0]))
              case d_eF13 => rfl
              obtain ⟨nF14, hr⟩ := hr.room
              refine w_ops_end (by simp (disch := (apply Apart.mk; decide)) only [go_sem, Nat.reduceAdd, Nat.reduceLT, Nat.reduceMul, Nat.reduceLeDiff, Int.reduceToNat, Int.reduceLT, Int.reduceLE, ha0, on_atB hl0, lt_add hl0, lt_at hl0, on_updB hl0, on_atU hl0, on_updU hl0, upd_same ha0, nF14]; rfl) ?_
              exact (w_bn (w_k ⟨((edges1 ++ ([(TEdge.mk (u8 (IntKind.u8.wrap c)) r2.1)])), r2.2.g.Final, r2.2.g.Edges, r2.2.ends), hr, (To.cut (h := (h.upd l0 (.cells [.row 4 (List.map eB r2.2.g.Final), .row 35 (List.map (eL eEdge) r2.2.g.Edges), .row 9 (List.map eS r2.2.ends)]))) (WF.upd hwf hl0 (by simp (disch := (apply Apart.mk; decide)) only [go_sem, Nat.reduceAdd, Nat.reduceLT, Nat.reduceMul, Nat.reduceLeDiff, Int.reduceToNat, Int.reduceLT, Int.reduceLE, ha0, on_atB hl0, lt_add hl0, lt_at hl0, on_updB hl0, on_atU hl0, on_updU hl0, upd_same ha0])) (Nat.le_refl _) (by first | rfl | (simp (disch := (apply Apart.mk; decide)) only [go_sem, Nat.reduceAdd, Nat.reduceLT, Nat.reduceMul, Nat.reduceLeDiff, Int.reduceToNat, Int.reduceLT, Int.reduceLE, ha0, on_atB hl0, lt_add hl0, lt_at hl0, on_updB hl0, on_atU hl0, on_updU hl0, upd_same ha0, cF10, cF12]; rfl)) (by simp (disch := (apply Apart.mk; decide)) only [go_sem, Nat.reduceAdd, Nat.reduceLT, Nat.reduceMul, Nat.reduceLeDiff, Int.reduceToNat, Int.reduceLT, Int.reduceLE, ha0, on_atB hl0, lt_add hl0, lt_at hl0, on_updB hl0, on_atU hl0, on_updU hl0, upd_same ha0, cF10, cF12]))⟩))
            · refine w_skip ?_
              exact (w_bn (w_k ⟨(edges1, Final2, Edges1, ends2), hr, (To.cut (h := (h.upd l0 (.cells [.row 4 (List.map eB Final2), .row 35 (List.map (eL eEdge) Edges1), .row 9 (List.map eS ends2)]))) (WF.upd hwf hl0 (by simp (disch := (apply Apart.mk; decide)) only [go_sem, Nat.reduceAdd, Nat.reduceLT, Nat.reduceMul, Nat.reduceLeDiff, Int.reduceToNat, Int.reduceLT, Int.reduceLE, ha0, on_atB hl0, lt_add hl0, lt_at hl0, on_updB hl0, on_atU hl0, on_updU hl0, upd_same ha0])) (Nat.le_refl _) (by first | rfl | (simp (disch := (apply Apart.mk; decide)) only [go_sem, Nat.reduceAdd, Nat.reduceLT, Nat.reduceMul, Nat.reduceLeDiff, Int.reduceToNat, Int.reduceLT, Int.reduceLE, ha0, on_atB hl0, lt_add hl0, lt_at hl0, on_updB hl0, on_atU hl0, on_updU hl0, upd_same ha0, cF10, cF12]; rfl)) (by simp (disch := (apply Apart.mk; decide)) only [go_sem, Nat.reduceAdd, Nat.reduceLT, Nat.reduceMul, Nat.reduceLeDiff, Int.reduceToNat, Int.reduceLT, Int.reduceLE, ha0, on_atB hl0, lt_add hl0, lt_at hl0, on_updB hl0, on_atU hl0, on_updU hl0, upd_same ha0, cF10, cF12]))⟩))
        · refine w_exit ?_
          exact (w_te (w_te (w_bx (w_k ⟨(edges1, Final2, Edges1, ends2), (hr).map, (To.cut (h := (h.upd l0 (.cells [.row 4 (List.map eB Final2), .row 35 (List.map (eL eEdge) Edges1), .row 9 (List.map eS ends2)]))) (WF.upd hwf hl0 (by simp (disch := (apply Apart.mk; decide)) only [go_sem, Nat.reduceAdd, Nat.reduceLT, Nat.reduceMul, Nat.reduceLeDiff, Int.reduceToNat, Int.reduceLT, Int.reduceLE, ha0, on_atB hl0, lt_add hl0, lt_at hl0, on_updB hl0, on_atU hl0, on_updU hl0, upd_same ha0])) (Nat.le_refl _) (by first | rfl | (simp (disch := (apply Apart.mk; decide)) only [go_sem, Nat.reduceAdd, Nat.reduceLT, Nat.reduceMul, Nat.reduceLeDiff, Int.reduceToNat, Int.reduceLT, Int.reduceLE, ha0, on_atB hl0, lt_add hl0, lt_at hl0, on_updB hl0, on_atU hl0, on_updU hl0, upd_same ha0, cF10]; rfl)) (by simp (disch := (apply Apart.mk; decide)) only [go_sem, Nat.reduceAdd, Nat.reduceLT, Nat.reduceMul, Nat.reduceLeDiff, Int.reduceToNat, Int.reduceLT, Int.reduceLE, ha0, on_atB hl0, lt_add hl0, lt_at hl0, on_updB hl0, on_atU hl0, on_updU hl0, upd_same ha0, cF10]))⟩))))
    · refine w_block ?_
      refine w_Loop (fun xX : Int => ⟨[(0, .cv (.val (.ptr (some (l0, 0))))), (1, .cv (.val (.sl (List.map eS ends)))), (5, .cv (.val (.str (bs r)))), (6, .cv (.val (.int .i64 xX)))], h.on []⟩) hr (To.cut hwf (Nat.le_refl _) (by first | rfl | (simp (disch := (apply Apart.mk; decide)) only [go_sem, Nat.reduceAdd, Nat.reduceLT, Nat.reduceMul, Nat.reduceLeDiff, Int.reduceToNat, Int.reduceLT, Int.reduceLE, ha0, on_atB hl0, lt_add hl0, lt_at hl0, on_updB hl0, on_atU hl0, on_updU hl0, upd_same ha0]; rfl)) (by simp (disch := (apply Apart.mk; decide)) only [go_sem, Nat.reduceAdd, Nat.reduceLT, Nat.reduceMul, Nat.reduceLeDiff, Int.reduceToNat, Int.reduceLT, Int.reduceLE, ha0, on_atB hl0, lt_add hl0, lt_at hl0, on_updB hl0, on_atU hl0, on_updU hl0, upd_same ha0])) (fun W2 xX hr => ?_)
      obtain ⟨i, rfl⟩ : ∃ z, z = xX := ⟨xX, rfl⟩
      dsimp only [scansionref17_maker_state.b2] at hr
      refine w_seq ?_
      refine w_seq ?_
      refine w_region rfl (by simp (disch := (apply Apart.mk; decide)) only [go_sem, Nat.reduceAdd, Nat.reduceLT, Nat.reduceMul, Nat.reduceLeDiff, Int.reduceToNat, Int.reduceLT, Int.reduceLE, ha0, on_atB hl0, lt_add hl0, lt_at hl0, on_updB hl0, on_atU hl0, on_updU hl0, upd_same ha0]; rfl) ?_
      refine w_n ?_
      refine w_condH (by simp (disch := (apply Apart.mk; decide)) only [go_sem, Nat.reduceAdd, Nat.reduceLT, Nat.reduceMul, Nat.reduceLeDiff, Int.reduceToNat, Int.reduceLT, Int.reduceLE, ha0, on_atB hl0, lt_add hl0, lt_at hl0, on_updB hl0, on_atU hl0, on_updU hl0, upd_same ha0]) hr (fun cF15 hr => ?_) (fun cF15 hr => ?_)
      · refine w_skip ?_
        refine w_n ?_
        refine w_seq ?_
        refine w_block ?_
        refine w_seq ?_
        obtain ⟨s1, nF16, eF17, gF18, hr⟩ := hr.idx
        refine w_region rfl (by simp (disch := (apply Apart.mk; decide)) only [go_sem, Nat.reduceAdd, Nat.reduceLT, Nat.reduceMul, Nat.reduceLeDiff, Int.reduceToNat, Int.reduceLT, Int.reduceLE, ha0, on_atB hl0, lt_add hl0, lt_at hl0, on_updB hl0, on_atU hl0, on_updU hl0, upd_same ha0, nF16, eF17, gF18, cF15]; rfl) ?_
        refine w_n ?_
        refine w_condH (by simp (disch := (apply Apart.mk; decide)) only [go_sem, Nat.reduceAdd, Nat.reduceLT, Nat.reduceMul, Nat.reduceLeDiff, Int.reduceToNat, Int.reduceLT, Int.reduceLE, ha0, on_atB hl0, lt_add hl0, lt_at hl0, on_updB hl0, on_atU hl0, on_updU hl0, upd_same ha0, cF15]) hr (fun cF19 hr => ?_) (fun cF19 hr => ?_)
        · refine w_seq ?_
          refine w_region rfl (by simp (disch := (apply Apart.mk; decide)) only [go_sem, Nat.reduceAdd, Nat.reduceLT, Nat.reduceMul, Nat.reduceLeDiff, Int.reduceToNat, Int.reduceLT, Int.reduceLE, ha0, on_atB hl0, lt_add hl0, lt_at hl0, on_updB hl0, on_atU hl0, on_updU hl0, upd_same ha0, cF15, cF19]; rfl) ?_
          refine w_n ?_
          refine w_ret ?_
          obtain rfl := hD _ hr
          exact (w_br (w_tr (w_tr (w_br (w_tr (w_tr (w_endR (To.cut (os' := []) (sl := [(4, .cv (.val (.int .i64 i)))]) (h := (h.upd l0 (.cells [.row 4 (List.map eB m.g.Final), .row 35 (List.map (eL eEdge) m.g.Edges), .row 9 (List.map eS m.ends)]))) (WF.upd hwf hl0 (by simp (disch := (apply Apart.mk; decide)) only [go_sem, Nat.reduceAdd, Nat.reduceLT, Nat.reduceMul, Nat.reduceLeDiff, Int.reduceToNat, Int.reduceLT, Int.reduceLE, ha0, on_atB hl0, lt_add hl0, lt_at hl0, on_updB hl0, on_atU hl0, on_updU hl0, upd_same ha0])) (Nat.le_refl _) (by first | rfl | (simp (disch := (apply Apart.mk; decide)) only [go_sem, Nat.reduceAdd, Nat.reduceLT, Nat.reduceMul, Nat.reduceLeDiff, Int.reduceToNat, Int.reduceLT, Int.reduceLE, ha0, on_atB hl0, lt_add hl0, lt_at hl0, on_updB hl0, on_atU hl0, on_updU hl0, upd_same ha0, cF15, cF19]; rfl)) (by simp (disch := (apply Apart.mk; decide)) only [go_sem, Nat.reduceAdd, Nat.reduceLT, Nat.reduceMul, Nat.reduceLeDiff, Int.reduceToNat, Int.reduceLT, Int.reduceLE, ha0, on_atB hl0, lt_add hl0, lt_at hl0, on_updB hl0, on_atU hl0, on_updU hl0, upd_same ha0, cF15, cF19])) (by simp (disch := (apply Apart.mk; decide)) only [go_sem, Nat.reduceAdd, Nat.reduceLT, Nat.reduceMul, Nat.reduceLeDiff, Int.reduceToNat, Int.reduceLT, Int.reduceLE, ha0, on_atB hl0, lt_add hl0, lt_at hl0, on_updB hl0, on_atU hl0, on_updU hl0, upd_same ha0, Try.results51, results_data CT_gives51, resCell, resVal.eq_2, loadOp_sv, cF15, cF19]) ⟨rfl, on_nil (h := (h.upd l0 (.cells [.row 4 (List.map eB m.g.Final), .row 35 (List.map (eL eEdge) m.g.Edges), .row 9 (List.map eS m.ends)]))) (WF.upd hwf hl0 (by simp (disch := (apply Apart.mk; decide)) only [go_sem, Nat.reduceAdd, Nat.reduceLT, Nat.reduceMul, Nat.reduceLeDiff, Int.reduceToNat, Int.reduceLT, Int.reduceLE, ha0, on_atB hl0, lt_add hl0, lt_at hl0, on_updB hl0, on_atU hl0, on_updU hl0, upd_same ha0]))⟩)))))))
        · refine w_skip ?_
          refine (w_bn (w_n ?_))
          refine w_region rfl (by simp (disch := (apply Apart.mk; decide)) only [go_sem, Nat.reduceAdd, Nat.reduceLT, Nat.reduceMul, Nat.reduceLeDiff, Int.reduceToNat, Int.reduceLT, Int.reduceLE, ha0, on_atB hl0, lt_add hl0, lt_at hl0, on_updB hl0, on_atU hl0, on_updU hl0, upd_same ha0, cF15, cF19]; rfl) ?_
          exact (w_k ⟨(IntKind.i64.wrap (i + (1 : Int))), hr, (To.cut hwf (Nat.le_refl _) (by first | rfl | (simp (disch := (apply Apart.mk; decide)) only [go_sem, Nat.reduceAdd, Nat.reduceLT, Nat.reduceMul, Nat.reduceLeDiff, Int.reduceToNat, Int.reduceLT, Int.reduceLE, ha0, on_atB hl0, lt_add hl0, lt_at hl0, on_updB hl0, on_atU hl0, on_updU hl0, upd_same ha0, cF15, cF19]; rfl)) (by simp (disch := (apply Apart.mk; decide)) only [go_sem, Nat.reduceAdd, Nat.reduceLT, Nat.reduceMul, Nat.reduceLeDiff, Int.reduceToNat, Int.reduceLT, Int.reduceLE, ha0, on_atB hl0, lt_add hl0, lt_at hl0, on_updB hl0, on_atU hl0, on_updU hl0, upd_same ha0, cF15, cF19]))⟩)
      · refine w_exit ?_
        exact (w_te (w_te (w_bx (w_k ⟨(), (hr).map, (To.cut hwf (Nat.le_refl _) (by first | rfl | (simp (disch := (apply Apart.mk; decide)) only [go_sem, Nat.reduceAdd, Nat.reduceLT, Nat.reduceMul, Nat.reduceLeDiff, Int.reduceToNat, Int.reduceLT, Int.reduceLE, ha0, on_atB hl0, lt_add hl0, lt_at hl0, on_updB hl0, on_atU hl0, on_updU hl0, upd_same ha0, cF15]; rfl)) (by simp (disch := (apply Apart.mk; decide)) only [go_sem, Nat.reduceAdd, Nat.reduceLT, Nat.reduceMul, Nat.reduceLeDiff, Int.reduceToNat, Int.reduceLT, Int.reduceLE, ha0, on_atB hl0, lt_add hl0, lt_at hl0, on_updB hl0, on_atU hl0, on_updU hl0, upd_same ha0, cF15]))⟩))))
theorem scansionref17_maker_state_runs (m : Tscansionref17_maker) (ends : List Str) (l0 : Nat) {h : Heap} (ha0 : h.at_ l0 = some (.cells [.row 4 (List.map eB m.g.Final), .row 35 (List.map (eL eEdge) m.g.Edges), .row 9 (List.map eS m.ends)])) {a : (Int × Tscansionref17_maker)} (e : scansionref17_maker_state m ends = some a) :
    Runs CT 51 [.cv (.val (.ptr (some (l0, 0)))), .cv (.val (.sl (List.map eS ends)))] h fun o h' => o = [.cv (.val (.int .i64 a.1))] ∧ h' = (h.upd l0 (.cells [.row 4 (List.map eB a.2.g.Final), .row 35 (List.map (eL eEdge) a.2.g.Edges), .row 9 (List.map eS a.2.ends)])) := by
  obtain ⟨n, hn⟩ := lim_some e
  exact scansionref17_maker_state_runs_r n m ends l0 ha0 (hn n (Nat.le_refl n))
end Go.Val

/- part GW17 -/
/- scansion/scansionref17.Build runs as it is read off. -/
namespace Go.Val
set_option linter.unusedVariables false
set_option linter.unusedSimpArgs false
set_option maxRecDepth 20000
open Go.Proofs
theorem scansionref17_Build_runs (words : List Str) {h : Heap} {a : (TGraph × Int)} (e : scansionref17_Build words = some a) :
    Runs CT 17 [.cv (.val (.sl (List.map eS words)))] h fun o h' => o = [.cv (.val (.agg [.sl (List.map eB a.1.Final), .sl (List.map (eL eEdge) a.1.Edges)])), .cv (.val (.int .i64 a.2))] ∧ h' = h := by
  refine Runs.start Try.f17 _ Try.func17 rfl (by rw [Try.ntmps17]; simp) (by rfl) (by rfl) (fun hwf hu => ?_)
  obtain ⟨D, hD, hr⟩ : ∃ D : (TGraph × Int) → Prop, (∀ z, D z → z = a) ∧ Holds (scansionref17_Build words) D := ⟨fun z => z = a, fun _ h => h, Holds.intro e rfl⟩
  dsimp only [scansionref17_Build] at hr
  change wpCode _ _ _ _ _ ⟨[(0, .cv (.val (.sl (List.map eS words))))], h.on []⟩
  refine w_seq ?_
  refine A_region ?_
  refine w_n ?_
  refine w_seq ?_
  refine A_ops ?_
  refine A_upto 1 ?_
  obtain ⟨r, eF1, hr⟩ := hr.bind
  refine A_call (out := ?o_eF1) (hp := ?p_eF1) ?c_eF1 ?d_eF1 ?_
  case c_eF1 => exact scansionref17_right_runs words eF1
  case d_eF1 => rfl
  refine A_ops_end ?_
  refine w_n ?_
  refine w_seq ?_
  refine w_seq ?_
  refine A_region ?_
  refine w_n ?_
  refine A_condH hr (fun cF2 hr => ?_) (fun cF2 hr => ?_)
  · refine w_seq ?_
    refine A_region ?_
    refine w_n ?_
    refine w_ret ?_
    obtain rfl := hD _ hr
    exact (w_tr (w_endRD (A_cut (os' := [some (.cells [.val (.sl (List.map eB ([] : List Bool))), .val (.sl (List.map (eL eEdge) ([] : List (List TEdge))))])]) (sl := [(2, .cv (.val (.ptr (some (h.n + 0, 0))))), (3, .cv (.val (.int .i64 (1 : Int))))]) hwf) (by simp (disch := (apply Apart.mk; decide)) only [go_sem, Nat.reduceAdd, Nat.reduceLT, Nat.reduceMul, Nat.reduceLeDiff, Int.reduceToNat, Int.reduceLT, Int.reduceLE, Try.results17, results_data CT_gives17, resCell, resVal.eq_2, loadOp_sv, cF2]) (Drops.on (os := [some (.cells [.val (.sl (List.map eB ([] : List Bool))), .val (.sl (List.map (eL eEdge) ([] : List (List TEdge))))])]) (os' := []) hwf (Nat.le_refl _) (by simp (disch := (apply Apart.mk; decide)) only [go_sem, Nat.reduceAdd, Nat.reduceLT, Nat.reduceMul, Nat.reduceLeDiff, Int.reduceToNat, Int.reduceLT, Int.reduceLE, cF2])) ⟨rfl, on_nil hwf⟩))
  · refine w_skip ?_
    refine w_n ?_
    refine w_seq ?_
    refine A_region ?_
    refine w_n ?_
    refine w_seq ?_
    refine w_toR (s1 := ⟨[(0, .cv (.val (.sl (List.map eS words)))), (2, .cv (.val (.ptr (some (h.n + 0, 0))))), (5, .cv (.val (.ptr (some (h.n + 1, 0)))))], h.on [some (.cells [.nil, .nil]), some (.cells [.row 4 (List.map eB []), .row 35 (List.map (eL eEdge) []), .row 9 (List.map eS [])])]⟩) (A_cut hwf) ?_
    refine A_ops ?_
    refine A_upto 2 ?_
    obtain ⟨r1, eF3, hr⟩ := hr.bind
    refine A_call (out := ?o_eF3) (hp := ?p_eF3) ?c_eF3 ?d_eF3 ?_
    case c_eF3 => (refine scansionref17_maker_state_runs (Tscansionref17_maker.mk (TGraph.mk [] []) []) words (h.n + 1) ?_ eF3; (simp (disch := (apply Apart.mk; decide)) only [go_sem, Nat.reduceAdd, Nat.reduceLT, Nat.reduceMul, Nat.reduceLeDiff, Int.reduceToNat, Int.reduceLT, Int.reduceLE]))
    case d_eF3 => rfl
    refine w_ops_nil ?_
    refine w_n ?_
    refine w_seq ?_
    refine w_toR (.fix _ _ (.cell (h.n + 1) 0) 4 _ (by simp (disch := (apply Apart.mk; decide)) only [go_sem, Nat.reduceAdd, Nat.reduceLT, Nat.reduceMul, Nat.reduceLeDiff, Int.reduceToNat, Int.reduceLT, Int.reduceLE, cF2]; rfl) (.refl _)) ?_
    refine w_toR (.fix _ _ (.cell (h.n + 1) 1) 35 _ (by simp (disch := (apply Apart.mk; decide)) only [go_sem, Nat.reduceAdd, Nat.reduceLT, Nat.reduceMul, Nat.reduceLeDiff, Int.reduceToNat, Int.reduceLT, Int.reduceLE, cF2]; rfl) (.refl _)) ?_
    refine A_region ?_
    refine w_n ?_
    refine w_ret ?_
    obtain rfl := hD _ hr
    exact (w_endRD (A_cut (os' := [some (.cells [.val (.sl (List.map eB r1.2.g.Final)), .val (.sl (List.map (eL eEdge) r1.2.g.Edges))])]) (sl := [(2, .cv (.val (.ptr (some (h.n + 0, 0))))), (3, .cv (.val (.int .i64 (0 : Int))))]) hwf) (by simp (disch := (apply Apart.mk; decide)) only [go_sem, Nat.reduceAdd, Nat.reduceLT, Nat.reduceMul, Nat.reduceLeDiff, Int.reduceToNat, Int.reduceLT, Int.reduceLE, Try.results17, results_data CT_gives17, resCell, resVal.eq_2, loadOp_sv, cF2]) (Drops.on (os := [some (.cells [.val (.sl (List.map eB r1.2.g.Final)), .val (.sl (List.map (eL eEdge) r1.2.g.Edges))])]) (os' := []) hwf (Nat.le_refl _) (by simp (disch := (apply Apart.mk; decide)) only [go_sem, Nat.reduceAdd, Nat.reduceLT, Nat.reduceMul, Nat.reduceLeDiff, Int.reduceToNat, Int.reduceLT, Int.reduceLE, cF2])) ⟨rfl, on_nil hwf⟩)
end Go.Val

/- part GW21 -/
/- scansion/scansionlaw18.awake runs as it is read off. -/
namespace Go.Val
set_option linter.unusedVariables false
set_option linter.unusedSimpArgs false
set_option maxRecDepth 20000
open Go.Proofs
theorem scansionlaw18_awake_runs {h : Heap} {a : Bool} (e : scansionlaw18_awake = some a) :
    Runs CT 21 [] h fun o h' => o = [.cv (.val (.bool a))] ∧ h' = h := by
  refine Runs.start Try.f21 _ Try.func21 rfl (by rw [Try.ntmps21]; simp) (by rfl) (by rfl) (fun hwf hu => ?_)
  obtain ⟨D, hD, hr⟩ : ∃ D : Bool → Prop, (∀ z, D z → z = a) ∧ Holds (scansionlaw18_awake) D := ⟨fun z => z = a, fun _ h => h, Holds.intro e rfl⟩
  dsimp only [scansionlaw18_awake] at hr
  change wpCode _ _ _ _ _ ⟨[], h.on []⟩
  refine w_seq ?_
  refine A_region ?_
  refine w_n ?_
  refine w_seq ?_
  refine A_ops ?_
  refine A_upto 1 ?_
  obtain ⟨r, eF1, hr⟩ := hr.bind
  refine A_call (out := ?o_eF1) (hp := ?p_eF1) ?c_eF1 ?d_eF1 ?_
  case c_eF1 => exact scansionref17_Build_runs ([([97, 98] : Str), ([99, 98] : Str)]) eF1
  case d_eF1 => rfl
  refine A_ops_end ?_
  refine w_n ?_
  refine w_seq ?_
  refine A_ops ?_
  refine A_upto 1 ?_
  obtain ⟨r1, eF2, hr⟩ := hr.bind
  try dsimp only at hr
  rcases xF12 : r1.1 with _ | y
  · rw [xF12] at hr
    dsimp only at hr
    refine A_call (out := ?o_eF2a) (hp := ?p_eF2a) ?c_eF2a ?d_eF2a ?_
    case c_eF2a => exact darray_Pack_runs_none r.1 eF2 xF12
    case d_eF2a => rfl
    refine A_ops_end ?_
    refine w_n ?_
    refine w_joinR (sj := ⟨[(0, .cv (.val (.bool false)))], h.on []⟩) (A_ops ?_) ?_
    · refine A_upto 3 ?_
      rcases Bool.eq_false_or_eq_true (r1.2 == (0 : Int)) with cF3 | cF3
      · refine A_upto 5 ?_
        refine A_off ?_
        refine A_upto 4 ?_
        refine A_off ?_
        refine A_upto 6 ?_
        refine A_off ?_
        refine A_upto 1 ?_
        refine A_off ?_
        refine A_ops_end ?_
        exact w_k (A_cut hwf)
      · refine A_upto 5 ?_
        refine A_off ?_
        refine A_upto 4 ?_
        refine A_off ?_
        refine A_upto 6 ?_
        refine A_off ?_
        refine A_upto 1 ?_
        refine A_off ?_
        refine A_ops_end ?_
        exact w_k (A_cut hwf)
    refine w_ret ?_
    obtain rfl := hD _ hr
    exact (A_endR (A_cut (os' := []) (sl := [(0, .cv (.val (.bool false)))]) hwf) ⟨rfl, on_nil hwf⟩)
  · rw [xF12] at hr
    dsimp only at hr
    refine A_call (out := ?o_eF2b) (hp := ?p_eF2b) ?c_eF2b ?d_eF2b ?_
    case c_eF2b => exact darray_Pack_runs_some r.1 eF2 xF12
    case d_eF2b => rfl
    refine A_ops_end ?_
    refine w_n ?_
    obtain ⟨v, vF11, hr⟩ := hr.bind
    refine w_joinR (sj := ⟨[(0, .cv (.val (.bool v)))], h.on []⟩) (A_ops ?_) ?_
    · have hr := Holds.intro (D := fun z => z = v) vF11 rfl
      refine A_upto 3 ?_
      rcases hr.ite with ⟨cF4, hr⟩ | ⟨cF4, hr⟩
      · refine A_upto 5 ?_
        obtain ⟨r2, eF5, hr⟩ := hr.bind
        refine w_call' (out := ?o_eF5) (hp := ?p_eF5) (by simp (disch := (apply Apart.mk; decide)) only [go_sem, Nat.reduceAdd, Nat.reduceLT, Nat.reduceMul, Nat.reduceLeDiff, Int.reduceToNat, Int.reduceLT, Int.reduceLE, Option.getD_some, cF4]) (by simp (disch := (apply Apart.mk; decide)) only [go_sem, Nat.reduceAdd, Nat.reduceLT, Nat.reduceMul, Nat.reduceLeDiff, Int.reduceToNat, Int.reduceLT, Int.reduceLE, Option.getD_some, cF4]; rfl) (by simp (disch := (apply Apart.mk; decide)) only [go_sem, Nat.reduceAdd, Nat.reduceLT, Nat.reduceMul, Nat.reduceLeDiff, Int.reduceToNat, Int.reduceLT, Int.reduceLE, Option.getD_some, cF4]; rfl) (by simp (disch := (apply Apart.mk; decide)) only [go_sem, Nat.reduceAdd, Nat.reduceLT, Nat.reduceMul, Nat.reduceLeDiff, Int.reduceToNat, Int.reduceLT, Int.reduceLE, Option.getD_some, cF4]; rfl) ?c_eF5 ?d_eF5 ?_
        case c_eF5 => (refine darray_Array_Start_runs y (h.n + 2) ?_ eF5; (simp (disch := (apply Apart.mk; decide)) only [go_sem, Nat.reduceAdd, Nat.reduceLT, Nat.reduceMul, Nat.reduceLeDiff, Int.reduceToNat, Int.reduceLT, Int.reduceLE]))
        case d_eF5 => rfl
        refine A_upto 3 ?_
        rcases hr.ite with ⟨cF6, hr⟩ | ⟨cF6, hr⟩
        · refine A_upto 1 ?_
          obtain ⟨r3, eF7, hr⟩ := hr.bind
          refine w_call' (out := ?o_eF7) (hp := ?p_eF7) (by simp (disch := (apply Apart.mk; decide)) only [go_sem, Nat.reduceAdd, Nat.reduceLT, Nat.reduceMul, Nat.reduceLeDiff, Int.reduceToNat, Int.reduceLT, Int.reduceLE, Option.getD_some, cF4, cF6]) (by simp (disch := (apply Apart.mk; decide)) only [go_sem, Nat.reduceAdd, Nat.reduceLT, Nat.reduceMul, Nat.reduceLeDiff, Int.reduceToNat, Int.reduceLT, Int.reduceLE, Option.getD_some, cF4, cF6]; rfl) (by simp (disch := (apply Apart.mk; decide)) only [go_sem, Nat.reduceAdd, Nat.reduceLT, Nat.reduceMul, Nat.reduceLeDiff, Int.reduceToNat, Int.reduceLT, Int.reduceLE, Option.getD_some, cF4, cF6]; rfl) (by simp (disch := (apply Apart.mk; decide)) only [go_sem, Nat.reduceAdd, Nat.reduceLT, Nat.reduceMul, Nat.reduceLeDiff, Int.reduceToNat, Int.reduceLT, Int.reduceLE, Option.getD_some, cF4, cF6]; rfl) ?c_eF7 ?d_eF7 ?_
          case c_eF7 => (refine darray_Array_Words_runs y (h.n + 2) ?_ eF7; (simp (disch := (apply Apart.mk; decide)) only [go_sem, Nat.reduceAdd, Nat.reduceLT, Nat.reduceMul, Nat.reduceLeDiff, Int.reduceToNat, Int.reduceLT, Int.reduceLE]))
          case d_eF7 => rfl
          refine A_upto 3 ?_
          rcases hr.ite with ⟨cF8, hr⟩ | ⟨cF8, hr⟩
          · refine A_upto 3 ?_
            obtain ⟨r4, eF9, hr⟩ := hr.bind
            refine w_call' (out := ?o_eF9) (hp := ?p_eF9) (by simp (disch := (apply Apart.mk; decide)) only [go_sem, Nat.reduceAdd, Nat.reduceLT, Nat.reduceMul, Nat.reduceLeDiff, Int.reduceToNat, Int.reduceLT, Int.reduceLE, Option.getD_some, cF4, cF6, cF8]) (by simp (disch := (apply Apart.mk; decide)) only [go_sem, Nat.reduceAdd, Nat.reduceLT, Nat.reduceMul, Nat.reduceLeDiff, Int.reduceToNat, Int.reduceLT, Int.reduceLE, Option.getD_some, cF4, cF6, cF8]; rfl) (by simp (disch := (apply Apart.mk; decide)) only [go_sem, Nat.reduceAdd, Nat.reduceLT, Nat.reduceMul, Nat.reduceLeDiff, Int.reduceToNat, Int.reduceLT, Int.reduceLE, Option.getD_some, cF4, cF6, cF8]; rfl) (by simp (disch := (apply Apart.mk; decide)) only [go_sem, Nat.reduceAdd, Nat.reduceLT, Nat.reduceMul, Nat.reduceLeDiff, Int.reduceToNat, Int.reduceLT, Int.reduceLE, Option.getD_some, cF4, cF6, cF8]; rfl) ?c_eF9 ?d_eF9 ?_
            case c_eF9 => (refine darray_Array_Prefixes_runs y ([(u8 (97 : Int)), (u8 (98 : Int)), (u8 (99 : Int))]) (h.n + 2) ?_ eF9; (simp (disch := (apply Apart.mk; decide)) only [go_sem, Nat.reduceAdd, Nat.reduceLT, Nat.reduceMul, Nat.reduceLeDiff, Int.reduceToNat, Int.reduceLT, Int.reduceLE]))
            case d_eF9 => rfl
            refine A_upto 1 ?_
            obtain ⟨r5, eF10, hr⟩ := hr.bind
            refine w_call' (out := ?o_eF10) (hp := ?p_eF10) (by simp (disch := (apply Apart.mk; decide)) only [go_sem, Nat.reduceAdd, Nat.reduceLT, Nat.reduceMul, Nat.reduceLeDiff, Int.reduceToNat, Int.reduceLT, Int.reduceLE, Option.getD_some, cF4, cF6, cF8]) (by simp (disch := (apply Apart.mk; decide)) only [go_sem, Nat.reduceAdd, Nat.reduceLT, Nat.reduceMul, Nat.reduceLeDiff, Int.reduceToNat, Int.reduceLT, Int.reduceLE, Option.getD_some, cF4, cF6, cF8]; rfl) (by simp (disch := (apply Apart.mk; decide)) only [go_sem, Nat.reduceAdd, Nat.reduceLT, Nat.reduceMul, Nat.reduceLeDiff, Int.reduceToNat, Int.reduceLT, Int.reduceLE, Option.getD_some, cF4, cF6, cF8]; rfl) (by simp (disch := (apply Apart.mk; decide)) only [go_sem, Nat.reduceAdd, Nat.reduceLT, Nat.reduceMul, Nat.reduceLeDiff, Int.reduceToNat, Int.reduceLT, Int.reduceLE, Option.getD_some, cF4, cF6, cF8]; rfl) ?c_eF10 ?d_eF10 ?_
            case c_eF10 => exact scansionref01_SameInts_runs r4 ([(2 : Int)]) eF10
            case d_eF10 => rfl
            refine A_ops_end ?_
            obtain rfl : _ = v := hr
            exact w_k (A_cut hwf)
          · refine A_upto 3 ?_
            refine A_off ?_
            refine A_upto 1 ?_
            refine A_off ?_
            refine A_ops_end ?_
            obtain rfl : _ = v := hr
            exact w_k (A_cut hwf)
        · refine A_upto 1 ?_
          refine A_off ?_
          refine A_upto 6 ?_
          refine A_off ?_
          refine A_upto 1 ?_
          refine A_off ?_
          refine A_ops_end ?_
          obtain rfl : _ = v := hr
          exact w_k (A_cut hwf)
      · refine A_upto 5 ?_
        refine A_off ?_
        refine A_upto 4 ?_
        refine A_off ?_
        refine A_upto 6 ?_
        refine A_off ?_
        refine A_upto 1 ?_
        refine A_off ?_
        refine A_ops_end ?_
        obtain rfl : _ = v := hr
        exact w_k (A_cut hwf)
    refine w_ret ?_
    obtain rfl := hD _ hr
    exact (A_endR (A_cut (os' := []) (sl := [(0, .cv (.val (.bool v)))]) hwf) ⟨rfl, on_nil hwf⟩)
end Go.Val

/- part GW13 -/
/- scansion/scansionlaw18.DarrayLoads runs as it is read off. -/
namespace Go.Val
set_option linter.unusedVariables false
set_option linter.unusedSimpArgs false
set_option maxRecDepth 20000
open Go.Proofs
theorem scansionlaw18_DarrayLoads_runs (c : List UInt8) (b : List UInt8) {h : Heap} {a : Bool} (e : scansionlaw18_DarrayLoads c b = some a) :
    Runs CT 13 [.cv (.val (.sl (List.map eU c))), .cv (.val (.sl (List.map eU b)))] h fun o h' => o = [.cv (.val (.bool a))] ∧ h' = h := by
  refine Runs.start Try.f13 _ Try.func13 rfl (by rw [Try.ntmps13]; simp) (by rfl) (by rfl) (fun hwf hu => ?_)
  obtain ⟨D, hD, hr⟩ : ∃ D : Bool → Prop, (∀ z, D z → z = a) ∧ Holds (scansionlaw18_DarrayLoads c b) D := ⟨fun z => z = a, fun _ h => h, Holds.intro e rfl⟩
  dsimp only [scansionlaw18_DarrayLoads] at hr
  change wpCode _ _ _ _ _ ⟨[(0, .cv (.val (.sl (List.map eU c)))), (1, .cv (.val (.sl (List.map eU b))))], h.on []⟩
  refine w_seq ?_
  refine A_region ?_
  refine w_n ?_
  refine w_seq ?_
  refine A_ops ?_
  obtain ⟨r, eF1, hr⟩ := hr.bind
  refine A_call (out := ?o_eF1) (hp := ?p_eF1) ?c_eF1 ?d_eF1 ?_
  case c_eF1 => exact scansionlaw18_awake_runs  eF1
  case d_eF1 => rfl
  refine A_ops_end ?_
  refine w_n ?_
  refine w_seq ?_
  refine w_joinR (sj := ⟨[(0, .cv (.val (.sl (List.map eU c)))), (1, .cv (.val (.sl (List.map eU b)))), (5, .cv (.val (.bool r))), (22, .cv (.val (.bool ((!r) || ((decide ((c.length : Int) > (1500 : Int))) || (decide ((b.length : Int) > (100 : Int))))))))], h.on []⟩) (A_ops ?_) ?_
  · refine A_upto 3 ?_
    rcases Bool.eq_false_or_eq_true (!r) with cF2 | cF2
    · refine A_ops_end ?_
      exact w_k (A_cut hwf)
    · refine A_upto 5 ?_
      rcases Bool.eq_false_or_eq_true (decide ((c.length : Int) > (1500 : Int))) with cF3 | cF3
      · refine A_ops_end ?_
        exact w_k (A_cut hwf)
      · refine A_ops_end ?_
        exact w_k (A_cut hwf)
  refine A_condH hr (fun cF4 hr => ?_) (fun cF4 hr => ?_)
  · refine w_seq ?_
    refine A_region ?_
    refine w_n ?_
    refine w_ret ?_
    obtain rfl := hD _ hr
    exact (w_tr (A_endR (A_cut (os' := []) (sl := [(4, .cv (.val (.bool r)))]) hwf) ⟨rfl, on_nil hwf⟩))
  · refine w_skip ?_
    refine w_n ?_
    refine w_seq ?_
    refine A_ops ?_
    refine A_upto 1 ?_
    obtain ⟨r1, eF5, hr⟩ := hr.bind
    try dsimp only at hr
    rcases xF25 : r1.1 with _ | y
    · rw [xF25] at hr
      dsimp only at hr
      refine A_call (out := ?o_eF5a) (hp := ?p_eF5a) ?c_eF5a ?d_eF5a ?_
      case c_eF5a => exact darray_Load_runs_none c eF5 xF25
      case d_eF5a => rfl
      refine A_ops_end ?_
      refine w_n ?_
      refine w_seq ?_
      refine A_ops ?_
      refine A_upto 1 ?_
      obtain ⟨r2, eF6, hr⟩ := hr.bind
      try dsimp only at hr
      rcases xF12 : r2.1 with _ | y1
      · rw [xF12] at hr
        dsimp only at hr
        refine A_call (out := ?o_eF6a) (hp := ?p_eF6a) ?c_eF6a ?d_eF6a ?_
        case c_eF6a => exact scansionref18_Load_runs_none c eF6 xF12
        case d_eF6a => rfl
        refine A_ops_end ?_
        refine w_n ?_
        refine w_seq ?_
        refine w_joinR (sj := ⟨[(0, .cv (.val (.sl (List.map eU c)))), (1, .cv (.val (.sl (List.map eU b)))), (6, .cv (.val (.ptr none))), (8, .cv (.val (.ptr none))), (43, .cv (.val (.bool (r1.2 != r2.2))))], h.on []⟩) (A_ops ?_) ?_
        · refine A_upto 4 ?_
          rcases Bool.eq_false_or_eq_true (r1.2 != r2.2) with cF7 | cF7
          · refine A_ops_end ?_
            exact w_k (A_cut hwf)
          · refine A_ops_end ?_
            exact w_k (A_cut hwf)
        refine A_condH hr (fun cF8 hr => ?_) (fun cF8 hr => ?_)
        · refine w_seq ?_
          refine A_region ?_
          refine w_n ?_
          refine w_ret ?_
          obtain rfl := hD _ hr
          exact (w_tr (A_endR (A_cut (os' := []) (sl := [(4, .cv (.val (.bool false)))]) hwf) ⟨rfl, on_nil hwf⟩))
        · refine w_skip ?_
          refine w_n ?_
          refine w_seq ?_
          refine w_seq ?_
          refine A_region ?_
          refine w_n ?_
          refine A_cond false (fun cF9 => by cases cF9) (fun _ => ?_)
          refine w_skip ?_
          refine w_n ?_
          refine w_seq ?_
          refine w_drawn [0, 1, 2, 3, 4, 5, 6, 7, 8, 11, 12, 9, 10, 13, 14, 15, 16] (by rfl) ?_
          refine p_run (l := [0, 1, 2, 3, 4, 5]) (pend' := [5, 4, 3, 2, 1, 0]) (by simp (disch := (apply Apart.mk; decide)) only [go_sem, Nat.reduceAdd, Nat.reduceLT, Nat.reduceMul, Nat.reduceLeDiff, Int.reduceToNat, Int.reduceLT, Int.reduceLE]; rfl) rfl ?_
          refine p_op (pend' := []) rfl (by simp (disch := (apply Apart.mk; decide)) only [go_sem, Nat.reduceAdd, Nat.reduceLT, Nat.reduceMul, Nat.reduceLeDiff, Int.reduceToNat, Int.reduceLT, Int.reduceLE]) (by simp (disch := (apply Apart.mk; decide)) only [go_sem, Nat.reduceAdd, Nat.reduceLT, Nat.reduceMul, Nat.reduceLeDiff, Int.reduceToNat, Int.reduceLT, Int.reduceLE]; rfl) (by rfl) ?_
          refine p_run (l := [7, 8, 11, 12]) (pend' := [12, 11, 8, 7]) (by simp (disch := (apply Apart.mk; decide)) only [go_sem, Nat.reduceAdd, Nat.reduceLT, Nat.reduceMul, Nat.reduceLeDiff, Int.reduceToNat, Int.reduceLT, Int.reduceLE]; rfl) rfl ?_
          refine p_op (pend' := [12, 11]) rfl (by simp (disch := (apply Apart.mk; decide)) only [go_sem, Nat.reduceAdd, Nat.reduceLT, Nat.reduceMul, Nat.reduceLeDiff, Int.reduceToNat, Int.reduceLT, Int.reduceLE]) (by simp (disch := (apply Apart.mk; decide)) only [go_sem, Nat.reduceAdd, Nat.reduceLT, Nat.reduceMul, Nat.reduceLeDiff, Int.reduceToNat, Int.reduceLT, Int.reduceLE]; rfl) (by rfl) ?_
          refine p_run (l := [10, 13, 14, 15]) (pend' := [15, 14, 13, 10, 12, 11]) (by simp (disch := (apply Apart.mk; decide)) only [go_sem, Nat.reduceAdd, Nat.reduceLT, Nat.reduceMul, Nat.reduceLeDiff, Int.reduceToNat, Int.reduceLT, Int.reduceLE]; rfl) rfl ?_
          refine p_op (pend' := []) rfl (by simp (disch := (apply Apart.mk; decide)) only [go_sem, Nat.reduceAdd, Nat.reduceLT, Nat.reduceMul, Nat.reduceLeDiff, Int.reduceToNat, Int.reduceLT, Int.reduceLE]) (by simp (disch := (apply Apart.mk; decide)) only [go_sem, Nat.reduceAdd, Nat.reduceLT, Nat.reduceMul, Nat.reduceLeDiff, Int.reduceToNat, Int.reduceLT, Int.reduceLE]; rfl) (by rfl) ?_
          refine p_end (by simp (disch := (apply Apart.mk; decide)) only [go_sem, Nat.reduceAdd, Nat.reduceLT, Nat.reduceMul, Nat.reduceLeDiff, Int.reduceToNat, Int.reduceLT, Int.reduceLE]) ?_
          refine w_n ?_
          refine w_ret ?_
          obtain rfl := hD _ hr
          exact (A_endR (A_cut (os' := []) (sl := [(4, .cv (.val (.bool true)))]) hwf) ⟨rfl, on_nil hwf⟩)
      · rw [xF12] at hr
        dsimp only at hr
        refine A_call (out := ?o_eF6b) (hp := ?p_eF6b) ?c_eF6b ?d_eF6b ?_
        case c_eF6b => exact scansionref18_Load_runs_some c eF6 xF12
        case d_eF6b => rfl
        refine A_ops_end ?_
        refine w_n ?_
        refine w_seq ?_
        refine w_joinR (sj := ⟨[(0, .cv (.val (.sl (List.map eU c)))), (1, .cv (.val (.sl (List.map eU b)))), (6, .cv (.val (.ptr none))), (8, .cv (.val (.ptr (some (h.n + 2, 0))))), (43, .cv (.val (.bool true)))], h.on [none, none, some (.cells [.val (.sl (List.map eB y1.G.Final)), .val (.sl (List.map (eL eEdge) y1.G.Edges)), .val (.int .i64 y1.Cells)])]⟩) (A_ops ?_) ?_
        · refine A_upto 4 ?_
          rcases Bool.eq_false_or_eq_true (r1.2 != r2.2) with cF10 | cF10
          · refine A_ops_end ?_
            exact w_k (A_cut hwf)
          · refine A_ops_end ?_
            exact w_k (A_cut hwf)
        refine A_cond true (fun _ => ?_) (fun cF11 => by cases cF11)
        refine w_seq ?_
        refine A_region ?_
        refine w_n ?_
        refine w_ret ?_
        obtain rfl := hD _ hr
        exact (w_tr (A_endR (A_cut (os' := []) (sl := [(4, .cv (.val (.bool false)))]) hwf) ⟨rfl, on_nil hwf⟩))
    · rw [xF25] at hr
      dsimp only at hr
      refine A_call (out := ?o_eF5b) (hp := ?p_eF5b) ?c_eF5b ?d_eF5b ?_
      case c_eF5b => exact darray_Load_runs_some c eF5 xF25
      case d_eF5b => rfl
      refine A_ops_end ?_
      refine w_n ?_
      refine w_seq ?_
      refine A_ops ?_
      refine A_upto 1 ?_
      obtain ⟨r3, eF13, hr⟩ := hr.bind
      try dsimp only at hr
      rcases xF24 : r3.1 with _ | y2
      · rw [xF24] at hr
        dsimp only at hr
        refine A_call (out := ?o_eF13a) (hp := ?p_eF13a) ?c_eF13a ?d_eF13a ?_
        case c_eF13a => exact scansionref18_Load_runs_none c eF13 xF24
        case d_eF13a => rfl
        refine A_ops_end ?_
        refine w_n ?_
        refine w_seq ?_
        refine w_joinR (sj := ⟨[(0, .cv (.val (.sl (List.map eU c)))), (1, .cv (.val (.sl (List.map eU b)))), (6, .cv (.val (.ptr (some (h.n + 3, 0))))), (8, .cv (.val (.ptr none))), (43, .cv (.val (.bool true)))], h.on [none, none, none, some (.cells [.val (.sl (List.map eB y.graph.Final)), .val (.sl (List.map (eL eEdge) y.graph.Edges)), .row 3 (List.map eI y.base), .row 91 (List.map edarray_cell y.cells), .val (.sl (List.map eI y.count))])]⟩) (A_ops ?_) ?_
        · refine A_upto 4 ?_
          rcases Bool.eq_false_or_eq_true (r1.2 != r3.2) with cF14 | cF14
          · refine A_ops_end ?_
            exact w_k (A_cut hwf)
          · refine A_ops_end ?_
            exact w_k (A_cut hwf)
        refine A_cond true (fun _ => ?_) (fun cF15 => by cases cF15)
        refine w_seq ?_
        refine A_region ?_
        refine w_n ?_
        refine w_ret ?_
        obtain rfl := hD _ hr
        exact (w_tr (A_endR (A_cut (os' := []) (sl := [(4, .cv (.val (.bool false)))]) hwf) ⟨rfl, on_nil hwf⟩))
      · rw [xF24] at hr
        dsimp only at hr
        refine A_call (out := ?o_eF13b) (hp := ?p_eF13b) ?c_eF13b ?d_eF13b ?_
        case c_eF13b => exact scansionref18_Load_runs_some c eF13 xF24
        case d_eF13b => rfl
        refine A_ops_end ?_
        refine w_n ?_
        refine w_seq ?_
        refine w_joinR (sj := ⟨[(0, .cv (.val (.sl (List.map eU c)))), (1, .cv (.val (.sl (List.map eU b)))), (6, .cv (.val (.ptr (some (h.n + 3, 0))))), (8, .cv (.val (.ptr (some (h.n + 6, 0))))), (43, .cv (.val (.bool (r1.2 != r3.2))))], h.on [none, none, none, some (.cells [.val (.sl (List.map eB y.graph.Final)), .val (.sl (List.map (eL eEdge) y.graph.Edges)), .row 3 (List.map eI y.base), .row 91 (List.map edarray_cell y.cells), .val (.sl (List.map eI y.count))]), none, none, some (.cells [.val (.sl (List.map eB y2.G.Final)), .val (.sl (List.map (eL eEdge) y2.G.Edges)), .val (.int .i64 y2.Cells)])]⟩) (A_ops ?_) ?_
        · refine A_upto 4 ?_
          rcases Bool.eq_false_or_eq_true (r1.2 != r3.2) with cF16 | cF16
          · refine A_ops_end ?_
            exact w_k (A_cut hwf)
          · refine A_ops_end ?_
            exact w_k (A_cut hwf)
        refine A_condH hr (fun cF17 hr => ?_) (fun cF17 hr => ?_)
        · refine w_seq ?_
          refine A_region ?_
          refine w_n ?_
          refine w_ret ?_
          obtain rfl := hD _ hr
          exact (w_tr (A_endR (A_cut (os' := []) (sl := [(4, .cv (.val (.bool false)))]) hwf) ⟨rfl, on_nil hwf⟩))
        · refine w_skip ?_
          refine w_n ?_
          refine w_seq ?_
          refine w_seq ?_
          refine A_region ?_
          refine w_n ?_
          refine A_condH hr (fun cF18 hr => ?_) (fun cF18 hr => ?_)
          · refine w_seq ?_
            refine w_drawn [0, 3, 4, 1, 2, 5, 6] (by rfl) ?_
            refine p_run (l := [0, 3, 4]) (pend' := [4, 3, 0]) (by simp (disch := (apply Apart.mk; decide)) only [go_sem, Nat.reduceAdd, Nat.reduceLT, Nat.reduceMul, Nat.reduceLeDiff, Int.reduceToNat, Int.reduceLT, Int.reduceLE]; rfl) rfl ?_
            obtain ⟨r4, eF19, hr⟩ := hr.bind
            refine p_call (out := ?o_eF19) (hp := ?p_eF19) (pend' := [4, 3]) rfl (by simp (disch := (apply Apart.mk; decide)) only [go_sem, Nat.reduceAdd, Nat.reduceLT, Nat.reduceMul, Nat.reduceLeDiff, Int.reduceToNat, Int.reduceLT, Int.reduceLE, Option.getD_some]) rfl (by simp (disch := (apply Apart.mk; decide)) only [go_sem, Nat.reduceAdd, Nat.reduceLT, Nat.reduceMul, Nat.reduceLeDiff, Int.reduceToNat, Int.reduceLT, Int.reduceLE, Option.getD_some]; rfl) (by simp (disch := (apply Apart.mk; decide)) only [go_sem, Nat.reduceAdd, Nat.reduceLT, Nat.reduceMul, Nat.reduceLeDiff, Int.reduceToNat, Int.reduceLT, Int.reduceLE, Option.getD_some]; rfl) (by simp (disch := (apply Apart.mk; decide)) only [go_sem, Nat.reduceAdd, Nat.reduceLT, Nat.reduceMul, Nat.reduceLeDiff, Int.reduceToNat, Int.reduceLT, Int.reduceLE, Option.getD_some]; rfl) (by rfl) ?c_eF19 ?d_eF19 ?_
            case c_eF19 => (refine darray_Array_Save_runs y (h.n + 3) ?_ eF19; (simp (disch := (apply Apart.mk; decide)) only [go_sem, Nat.reduceAdd, Nat.reduceLT, Nat.reduceMul, Nat.reduceLeDiff, Int.reduceToNat, Int.reduceLT, Int.reduceLE]))
            case d_eF19 => rfl
            refine p_run (l := [2, 5]) (pend' := [5, 2, 4, 3]) (by simp (disch := (apply Apart.mk; decide)) only [go_sem, Nat.reduceAdd, Nat.reduceLT, Nat.reduceMul, Nat.reduceLeDiff, Int.reduceToNat, Int.reduceLT, Int.reduceLE]; rfl) rfl ?_
            refine p_op (pend' := []) rfl (by simp (disch := (apply Apart.mk; decide)) only [go_sem, Nat.reduceAdd, Nat.reduceLT, Nat.reduceMul, Nat.reduceLeDiff, Int.reduceToNat, Int.reduceLT, Int.reduceLE]) (by simp (disch := (apply Apart.mk; decide)) only [go_sem, Nat.reduceAdd, Nat.reduceLT, Nat.reduceMul, Nat.reduceLeDiff, Int.reduceToNat, Int.reduceLT, Int.reduceLE]; rfl) (by rfl) ?_
            refine p_end (by simp (disch := (apply Apart.mk; decide)) only [go_sem, Nat.reduceAdd, Nat.reduceLT, Nat.reduceMul, Nat.reduceLeDiff, Int.reduceToNat, Int.reduceLT, Int.reduceLE]) ?_
            refine w_n ?_
            refine w_ret ?_
            obtain rfl := hD _ hr
            exact (w_tr (A_endR (A_cut (os' := []) (sl := [(4, .cv (.val (.bool (r4 == c))))]) hwf) ⟨rfl, on_nil hwf⟩))
          · refine w_skip ?_
            refine w_n ?_
            obtain ⟨v5, vF23, hr⟩ := hr.bind
            refine w_joinR (sj := ⟨[(4, .cv (.val (.bool v5)))], h.on []⟩) (w_drawn [0, 1, 2, 3, 4, 5, 6, 7, 8, 11, 12, 9, 10, 13, 14, 15, 16] (by rfl) ?_) ?_
            · have hr := Holds.intro (D := fun z => z = v5) vF23 rfl
              refine p_run (l := [0, 1, 2, 3, 4, 5]) (pend' := [5, 4, 3, 2, 1, 0]) (by simp (disch := (apply Apart.mk; decide)) only [go_sem, Nat.reduceAdd, Nat.reduceLT, Nat.reduceMul, Nat.reduceLeDiff, Int.reduceToNat, Int.reduceLT, Int.reduceLE]; rfl) rfl ?_
              obtain ⟨r5, eF20, hr⟩ := hr.bind
              refine p_call (out := ?o_eF20) (hp := ?p_eF20) (pend' := []) rfl (by simp (disch := (apply Apart.mk; decide)) only [go_sem, Nat.reduceAdd, Nat.reduceLT, Nat.reduceMul, Nat.reduceLeDiff, Int.reduceToNat, Int.reduceLT, Int.reduceLE, Option.getD_some]) (by simp (disch := (apply Apart.mk; decide)) only [go_sem, Nat.reduceAdd, Nat.reduceLT, Nat.reduceMul, Nat.reduceLeDiff, Int.reduceToNat, Int.reduceLT, Int.reduceLE, Option.getD_some]) (by simp (disch := (apply Apart.mk; decide)) only [go_sem, Nat.reduceAdd, Nat.reduceLT, Nat.reduceMul, Nat.reduceLeDiff, Int.reduceToNat, Int.reduceLT, Int.reduceLE, Option.getD_some]; rfl) (by simp (disch := (apply Apart.mk; decide)) only [go_sem, Nat.reduceAdd, Nat.reduceLT, Nat.reduceMul, Nat.reduceLeDiff, Int.reduceToNat, Int.reduceLT, Int.reduceLE, Option.getD_some]; rfl) (by simp (disch := (apply Apart.mk; decide)) only [go_sem, Nat.reduceAdd, Nat.reduceLT, Nat.reduceMul, Nat.reduceLeDiff, Int.reduceToNat, Int.reduceLT, Int.reduceLE, Option.getD_some]; rfl) (by rfl) ?c_eF20 ?d_eF20 ?_
              case c_eF20 => (refine scansionlaw18_alike_runs y y2 b (h.n + 3) (h.n + 6) ?_ ?_ ?_ eF20; (simp (disch := (apply Apart.mk; decide)) only [go_sem, Nat.reduceAdd, Nat.reduceLT, Nat.reduceMul, Nat.reduceLeDiff, Int.reduceToNat, Int.reduceLT, Int.reduceLE]); (simp (disch := (apply Apart.mk; decide)) only [go_sem, Nat.reduceAdd, Nat.reduceLT, Nat.reduceMul, Nat.reduceLeDiff, Int.reduceToNat, Int.reduceLT, Int.reduceLE]); (first | omega | assumption | exact Ne.symm (by assumption)))
              case d_eF20 => rfl
              refine p_run (l := [7]) (pend' := [7]) (by simp (disch := (apply Apart.mk; decide)) only [go_sem, Nat.reduceAdd, Nat.reduceLT, Nat.reduceMul, Nat.reduceLeDiff, Int.reduceToNat, Int.reduceLT, Int.reduceLE]; rfl) rfl ?_
              rcases hr.ite with ⟨cF21, hr⟩ | ⟨cF21, hr⟩
              · refine p_run (l := [8, 11, 12]) (pend' := [12, 11, 8, 7]) (by simp (disch := (apply Apart.mk; decide)) only [go_sem, Nat.reduceAdd, Nat.reduceLT, Nat.reduceMul, Nat.reduceLeDiff, Int.reduceToNat, Int.reduceLT, Int.reduceLE, cF21]; rfl) rfl ?_
                obtain ⟨r6, eF22, hr⟩ := hr.bind
                refine p_call (out := ?o_eF22) (hp := ?p_eF22) (pend' := [12, 11]) rfl (by simp (disch := (apply Apart.mk; decide)) only [go_sem, Nat.reduceAdd, Nat.reduceLT, Nat.reduceMul, Nat.reduceLeDiff, Int.reduceToNat, Int.reduceLT, Int.reduceLE, Option.getD_some, cF21]) (by simp (disch := (apply Apart.mk; decide)) only [go_sem, Nat.reduceAdd, Nat.reduceLT, Nat.reduceMul, Nat.reduceLeDiff, Int.reduceToNat, Int.reduceLT, Int.reduceLE, Option.getD_some, cF21]) (by simp (disch := (apply Apart.mk; decide)) only [go_sem, Nat.reduceAdd, Nat.reduceLT, Nat.reduceMul, Nat.reduceLeDiff, Int.reduceToNat, Int.reduceLT, Int.reduceLE, Option.getD_some, cF21]; rfl) (by simp (disch := (apply Apart.mk; decide)) only [go_sem, Nat.reduceAdd, Nat.reduceLT, Nat.reduceMul, Nat.reduceLeDiff, Int.reduceToNat, Int.reduceLT, Int.reduceLE, Option.getD_some, cF21]; rfl) (by simp (disch := (apply Apart.mk; decide)) only [go_sem, Nat.reduceAdd, Nat.reduceLT, Nat.reduceMul, Nat.reduceLeDiff, Int.reduceToNat, Int.reduceLT, Int.reduceLE, Option.getD_some, cF21]; rfl) (by rfl) ?c_eF22 ?d_eF22 ?_
                case c_eF22 => (refine darray_Array_Save_runs y (h.n + 3) ?_ eF22; (simp (disch := (apply Apart.mk; decide)) only [go_sem, Nat.reduceAdd, Nat.reduceLT, Nat.reduceMul, Nat.reduceLeDiff, Int.reduceToNat, Int.reduceLT, Int.reduceLE]))
                case d_eF22 => rfl
                refine p_run (l := [10, 13, 14, 15]) (pend' := [15, 14, 13, 10, 12, 11]) (by simp (disch := (apply Apart.mk; decide)) only [go_sem, Nat.reduceAdd, Nat.reduceLT, Nat.reduceMul, Nat.reduceLeDiff, Int.reduceToNat, Int.reduceLT, Int.reduceLE, cF21]; rfl) rfl ?_
                refine p_op (pend' := []) rfl (by simp (disch := (apply Apart.mk; decide)) only [go_sem, Nat.reduceAdd, Nat.reduceLT, Nat.reduceMul, Nat.reduceLeDiff, Int.reduceToNat, Int.reduceLT, Int.reduceLE, cF21]) (by simp (disch := (apply Apart.mk; decide)) only [go_sem, Nat.reduceAdd, Nat.reduceLT, Nat.reduceMul, Nat.reduceLeDiff, Int.reduceToNat, Int.reduceLT, Int.reduceLE, cF21]; rfl) (by rfl) ?_
                refine p_end (by simp (disch := (apply Apart.mk; decide)) only [go_sem, Nat.reduceAdd, Nat.reduceLT, Nat.reduceMul, Nat.reduceLeDiff, Int.reduceToNat, Int.reduceLT, Int.reduceLE, cF21]) ?_
                obtain rfl : _ = v5 := hr
                exact w_k (A_cut hwf)
              · refine p_run (l := [8, 11, 12]) (pend' := [12, 11, 8, 7]) (by simp (disch := (apply Apart.mk; decide)) only [go_sem, Nat.reduceAdd, Nat.reduceLT, Nat.reduceMul, Nat.reduceLeDiff, Int.reduceToNat, Int.reduceLT, Int.reduceLE, cF21]; rfl) rfl ?_
                refine p_op (pend' := [12, 11]) rfl (by simp (disch := (apply Apart.mk; decide)) only [go_sem, Nat.reduceAdd, Nat.reduceLT, Nat.reduceMul, Nat.reduceLeDiff, Int.reduceToNat, Int.reduceLT, Int.reduceLE, cF21]) (by simp (disch := (apply Apart.mk; decide)) only [go_sem, Nat.reduceAdd, Nat.reduceLT, Nat.reduceMul, Nat.reduceLeDiff, Int.reduceToNat, Int.reduceLT, Int.reduceLE, cF21]; rfl) (by rfl) ?_
                refine p_run (l := [10, 13, 14, 15]) (pend' := [15, 14, 13, 10, 12, 11]) (by simp (disch := (apply Apart.mk; decide)) only [go_sem, Nat.reduceAdd, Nat.reduceLT, Nat.reduceMul, Nat.reduceLeDiff, Int.reduceToNat, Int.reduceLT, Int.reduceLE, cF21]; rfl) rfl ?_
                refine p_op (pend' := []) rfl (by simp (disch := (apply Apart.mk; decide)) only [go_sem, Nat.reduceAdd, Nat.reduceLT, Nat.reduceMul, Nat.reduceLeDiff, Int.reduceToNat, Int.reduceLT, Int.reduceLE, cF21]) (by simp (disch := (apply Apart.mk; decide)) only [go_sem, Nat.reduceAdd, Nat.reduceLT, Nat.reduceMul, Nat.reduceLeDiff, Int.reduceToNat, Int.reduceLT, Int.reduceLE, cF21]; rfl) (by rfl) ?_
                refine p_end (by simp (disch := (apply Apart.mk; decide)) only [go_sem, Nat.reduceAdd, Nat.reduceLT, Nat.reduceMul, Nat.reduceLeDiff, Int.reduceToNat, Int.reduceLT, Int.reduceLE, cF21]) ?_
                obtain rfl : _ = v5 := hr
                exact w_k (A_cut hwf)
            refine w_ret ?_
            obtain rfl := hD _ hr
            exact (A_endR (A_cut (os' := []) (sl := [(4, .cv (.val (.bool v5)))]) hwf) ⟨rfl, on_nil hwf⟩)
end Go.Val

/- part P1 -/
/- Plain lemmas: loops that are read off. -/
namespace Go.Val
set_option linter.unusedVariables false

theorem w64 {n : Int} (h1 : -9223372036854775808 ≤ n) (h2 : n ≤ 9223372036854775807) : IntKind.i64.wrap n = n := by rw [IntKind.wrap_i64]; omega
theorem w64s {i : Nat} (h : i < 9223372036854775807) : IntKind.i64.wrap ((i : Int) + 1) = ((i + 1 : Nat) : Int) := by rw [w64 (by omega) (by omega)]; omega
theorem idx_nat {α : Type} {xs : List α} {i : Nat} : idx xs (i : Int) = xs[i]? := by
  unfold idx; rw [if_neg (by omega)]; simp
theorem idx_some {α : Type} {xs : List α} {i : Int} {x : α} (h0 : 0 ≤ i) (h : xs[i.toNat]? = some x) : idx xs i = some x := by
  unfold idx; rw [if_neg (by omega)]; exact h
theorem room_ok {sz n : Nat} (h : n * sz ≤ 140737488355328) : room sz n = some () := by
  unfold room roomOf; rw [if_pos h]
theorem roomS_ok {n : Nat} (h : n ≤ 9223372036854775807) : roomS n = some () := by
  unfold roomS; rw [if_neg (by simp [IntKind.max, IntKind.signed, IntKind.bits]; omega)]
theorem mk_ok {α : Type} {sz : Nat} {z : α} {n : Nat} (h : n * sz ≤ 140737488355328) : mk sz z (n : Int) = some (List.replicate n z) := by
  unfold mk roomOf; rw [if_pos ⟨by omega, by simpa using h⟩]; simp

theorem snoc_ind {α : Type} {P : List α → Prop} (h0 : P []) (h1 : ∀ l x, P l → P (l ++ [x])) (l : List α) : P l := by
  have key : ∀ l : List α, P l.reverse := by
    intro l
    induction l with
    | nil => exact h0
    | cons x l ih => rw [List.reverse_cons]; exact h1 _ _ ih
  have := key l.reverse
  rwa [List.reverse_reverse] at this
/-- Rounds that go on, one by one. -/
theorem Loop_run {σ ρ : Type} {b : σ → Option (Step σ ρ)} (st : Nat → σ) {i n : Nat} (hin : i ≤ n) (h : ∀ j, i ≤ j → j < n → b (st j) = some (.next (st (j + 1)))) : Loop b (st i) = Loop b (st n) := by
  induction n with
  | zero => obtain rfl : i = 0 := by omega
            rfl
  | succ n ih =>
    by_cases e : i = n + 1
    · rw [e]
    · rw [ih (by omega) fun j h1 h2 => h j h1 (by omega)]
      exact Loop_next (h n (by omega) (by omega))
theorem Loop_int {ρ : Type} {b : Int → Option (Step Int ρ)} {i n : Nat} (hin : i ≤ n) (h : ∀ j : Nat, i ≤ j → j < n → b j = some (.next ((j + 1 : Nat) : Int))) : Loop b (i : Int) = Loop b (n : Int) := Loop_run (fun j : Nat => (j : Int)) hin h
/-- A loop's end. -/
theorem Loop_end {σ ρ : Type} {b : σ → Option (Step σ ρ)} {s : σ} {R : Option ρ} (h : b s = R.map Step.done) : Loop b s = R := by
  cases R with
  | some r => exact Loop_done h
  | none =>
    apply Option.ext_some
    · intro r hr
      obtain ⟨n, hn⟩ := Loop_get hr
      cases n with
      | zero => simp [rounds] at hn
      | succ n => simp [rounds, h] at hn
    · intro r hr; cases hr
open Classical in
/-- A loop that looks for what is bad. -/
theorem Loop_all {ρ : Type} {b : Int → Option (Step Int ρ)} (P : Nat → Prop) {n : Nat} {r R : ρ} (hg : ∀ j, j < n → P j → b (j : Int) = some (.next ((j + 1 : Nat) : Int))) (hb : ∀ j, j < n → ¬ P j → b (j : Int) = some (.done r)) (he : b (n : Int) = some (.done R)) :
    ∀ (d i : Nat), i + d = n → Loop b (i : Int) = if ∀ j, i ≤ j → j < n → P j then some R else some r := by
  intro d
  induction d with
  | zero =>
    intro i hi
    obtain rfl : i = n := by omega
    rw [if_pos (fun j h1 h2 => by omega)]
    exact Loop_done he
  | succ d ih =>
    intro i hi
    by_cases hp : P i
    · rw [Loop_next (hg i (by omega) hp), ih (i + 1) (by omega)]
      have : (∀ j, i + 1 ≤ j → j < n → P j) ↔ ∀ j, i ≤ j → j < n → P j := by
        constructor
        · intro h j h1 h2
          by_cases e : j = i
          · rw [e]; exact hp
          · exact h j (by omega) h2
        · intro h j h1 h2; exact h j (by omega) h2
      simp only [this]
    · rw [Loop_done (hb i (by omega) hp), if_neg (fun h => hp (h i (Nat.le_refl _) (by omega)))]
theorem Loop_all0 {ρ : Type} {b : Int → Option (Step Int ρ)} (P : Nat → Prop) (n : Nat) {r R : ρ} (hg : ∀ j, j < n → P j → b (j : Int) = some (.next ((j + 1 : Nat) : Int))) (hb : ∀ j, j < n → ¬ P j → b (j : Int) = some (.done r)) (he : b (n : Int) = some (.done R)) :
    ((∀ j, j < n → P j) → Loop b 0 = some R) ∧ ((¬ ∀ j, j < n → P j) → Loop b 0 = some r) := by
  have := Loop_all P hg hb he n 0 (by omega)
  exact ⟨fun h => by rw [if_pos (fun j _ hj => h j hj)] at this; exact this, fun h => by rw [if_neg (fun h' => h fun j hj => h' j (Nat.zero_le _) hj)] at this; exact this⟩
end Go.Val

/- part P2 -/
/- Plain lemmas: graphs that may be. -/
namespace Go.Val
set_option linter.unusedVariables false
def EdgeOk (s : Nat) (xs : List TEdge) (k : Nat) : Prop := ∀ x, xs[k]? = some x → 0 ≤ x.To ∧ x.To < s ∧ (0 < k → ∀ x1, xs[k - 1]? = some x1 → x1.Label.toNat < x.Label.toNat)
def RowOk (s : Nat) (xs : List TEdge) : Prop := ∀ k, k < xs.length → EdgeOk s xs k
structure RightP (g : TGraph) : Prop where
  lo : 1 ≤ g.Final.length
  hi : g.Final.length ≤ 65536
  len : g.Edges.length = g.Final.length
  rows : ∀ s, s < g.Edges.length → ∀ xs, g.Edges[s]? = some xs → RowOk s xs
/-- No row is longer than memory. -/
def Short (g : TGraph) : Prop := ∀ xs ∈ g.Edges, xs.length ≤ 140737488355328

def chk (s : Int) (xs : List TEdge) (k : Int) (x : TEdge) : Option Bool :=
  if (decide (x.To < (0 : Int))) then some true
  else if (decide (x.To ≥ s)) then some true
  else if (decide (k > (0 : Int))) then
    (idx xs (IntKind.i64.wrap (k - (1 : Int)))).bind fun x1 => some (decide ((x.Label.toNat : Int) ≤ (x1.Label.toNat : Int)))
  else some false
theorem chk_eq {s k : Nat} {xs : List TEdge} {x : TEdge} (hk : xs[k]? = some x) (hl : xs.length ≤ 140737488355328) : ∃ v, chk s xs k x = some v ∧ (v = true ↔ ¬ EdgeOk s xs k) := by
  have hlt : k < xs.length := (List.getElem?_eq_some_iff.1 hk).1
  unfold chk
  by_cases h1 : x.To < 0
  · exact ⟨true, by simp [h1], by simp; intro h; have := (h x hk).1; omega⟩
  by_cases h2 : x.To ≥ s
  · exact ⟨true, by simp [h1, h2], by simp; intro h; have := (h x hk).2.1; omega⟩
  by_cases h3 : 0 < k
  · have hlt1 : k - 1 < xs.length := by omega
    have h4 : xs[k - 1]? = some (xs[k - 1]) := List.getElem?_eq_getElem hlt1
    have e : IntKind.i64.wrap ((k : Int) - 1) = ((k - 1 : Nat) : Int) := by rw [w64 (by omega) (by omega)]; omega
    refine ⟨decide ((x.Label.toNat : Int) ≤ (xs[k - 1].Label.toNat : Int)), ?_, ?_⟩
    · rw [if_neg (by simp; omega), if_neg (by simp; omega), if_pos (by simp; omega), e, idx_nat, h4]; rfl
    · simp only [decide_eq_true_eq]
      constructor
      · intro h hok
        have := (hok x hk).2.2 h3 _ h4
        omega
      · intro h
        by_cases hc : (x.Label.toNat : Int) ≤ (xs[k - 1].Label.toNat : Int)
        · exact hc
        · exfalso; apply h
          intro y hy
          rw [hk] at hy; cases hy
          exact ⟨by omega, by omega, fun _ x1 hx1 => by rw [h4] at hx1; cases hx1; omega⟩
  · refine ⟨false, ?_, ?_⟩
    · rw [if_neg (by simp; omega), if_neg (by simp; omega), if_neg (by simp; omega)]
    · simp only [Bool.false_eq_true, false_iff, Classical.not_not]
      intro y hy
      rw [hk] at hy; cases hy
      exact ⟨by omega, by omega, fun h => absurd h h3⟩

theorem dawg_Right_row {s : Nat} {xs : List TEdge} (hs : s ≤ 65536) (hl : xs.length ≤ 140737488355328) : (RowOk s xs → Loop (dawg_Right.b2 s xs) 0 = some (.next ((s + 1 : Nat) : Int))) ∧ (¬ RowOk s xs → Loop (dawg_Right.b2 s xs) 0 = some (.done false)) := by
  refine Loop_all0 (fun k => EdgeOk s xs k) xs.length (fun k hk hp => ?_) (fun k hk hp => ?_) ?_
  · have hx : xs[k]? = some xs[k] := List.getElem?_eq_getElem hk
    obtain ⟨v, h1, h2⟩ := chk_eq (s := s) hx hl
    have hv : v = false := by cases v with
      | true => exact absurd hp (h2.1 rfl)
      | false => rfl
    unfold dawg_Right.b2
    rw [if_pos (by simp; omega), idx_nat, hx]
    show (chk s xs k xs[k]).bind _ = _
    rw [h1, hv]
    simp [w64s (show k < 9223372036854775807 by omega)]
  · have hx : xs[k]? = some xs[k] := List.getElem?_eq_getElem hk
    obtain ⟨v, h1, h2⟩ := chk_eq (s := s) hx hl
    have hv : v = true := h2.2 hp
    unfold dawg_Right.b2
    rw [if_pos (by simp; omega), idx_nat, hx]
    show (chk s xs k xs[k]).bind _ = _
    rw [h1, hv]
    rfl
  · unfold dawg_Right.b2
    rw [if_neg (by simp)]
    simp [dawg_Right.k2, w64s (show s < 9223372036854775807 by omega)]
theorem ref_Right_row {g : TGraph} {s : Nat} {xs : List TEdge} (hg : g.Edges[s]? = some xs) (hs : s ≤ 65536) (hl : xs.length ≤ 140737488355328) : (RowOk s xs → Loop (scansionref17_Right.b2 g s) 0 = some (.next ((s + 1 : Nat) : Int))) ∧ (¬ RowOk s xs → Loop (scansionref17_Right.b2 g s) 0 = some (.done false)) := by
  refine Loop_all0 (fun k => EdgeOk s xs k) xs.length (fun k hk hp => ?_) (fun k hk hp => ?_) ?_
  · have hx : xs[k]? = some xs[k] := List.getElem?_eq_getElem hk
    obtain ⟨v, h1, h2⟩ := chk_eq (s := s) hx hl
    have hv : v = false := by cases v with
      | true => exact absurd hp (h2.1 rfl)
      | false => rfl
    unfold scansionref17_Right.b2
    rw [idx_nat, hg, Option.bind_some, if_pos (by simp; omega), idx_nat, hx]
    show (chk s xs k xs[k]).bind _ = _
    rw [h1, hv]
    simp [w64s (show k < 9223372036854775807 by omega)]
  · have hx : xs[k]? = some xs[k] := List.getElem?_eq_getElem hk
    obtain ⟨v, h1, h2⟩ := chk_eq (s := s) hx hl
    have hv : v = true := h2.2 hp
    unfold scansionref17_Right.b2
    rw [idx_nat, hg, Option.bind_some, if_pos (by simp; omega), idx_nat, hx]
    show (chk s xs k xs[k]).bind _ = _
    rw [h1, hv]
    rfl
  · unfold scansionref17_Right.b2
    rw [idx_nat, hg, Option.bind_some, if_neg (by simp)]
    simp [scansionref17_Right.k2, w64s (show s < 9223372036854775807 by omega)]

open Classical in
theorem dawg_Right_eq {g : TGraph} (hs : Short g) : dawg_Right g = some (decide (RightP g)) := by
  unfold dawg_Right
  split
  · rename_i h
    have : ¬ RightP g := fun hr => by
      have h1 := hr.lo; have h2 := hr.hi; have h3 := hr.len
      simp at h; omega
    simp [this]
  · rename_i h
    simp at h
    obtain ⟨k1, k2⟩ := Loop_all0 (b := dawg_Right.b1 g) (fun s => ∀ xs, g.Edges[s]? = some xs → RowOk s xs) g.Edges.length (r := false) (R := true) (fun s hlt hp => by
        have hx : g.Edges[s]? = some g.Edges[s] := List.getElem?_eq_getElem hlt
        unfold dawg_Right.b1
        rw [if_pos (by simp; omega), idx_nat, hx, Option.bind_some, (dawg_Right_row (by omega) (hs _ (List.getElem_mem hlt))).1 (hp _ hx)])
      (fun s hlt hp => by
        have hx : g.Edges[s]? = some g.Edges[s] := List.getElem?_eq_getElem hlt
        unfold dawg_Right.b1
        rw [if_pos (by simp; omega), idx_nat, hx, Option.bind_some, (dawg_Right_row (by omega) (hs _ (List.getElem_mem hlt))).2 (fun h => hp fun xs he => by rw [hx] at he; cases he; exact h)])
      (by unfold dawg_Right.b1; rw [if_neg (by simp)]; rfl)
    by_cases hr : RightP g
    · rw [k1 hr.rows]; simp [hr]
    · rw [k2 (fun hrows => hr ⟨by omega, by omega, by omega, hrows⟩)]; simp [hr]
open Classical in
theorem ref_Right_eq {g : TGraph} (hs : Short g) : scansionref17_Right g = some (decide (RightP g)) := by
  unfold scansionref17_Right
  split
  · rename_i h
    have : ¬ RightP g := fun hr => by
      have h1 := hr.lo; have h2 := hr.hi; have h3 := hr.len
      simp at h; omega
    simp [this]
  · rename_i h
    simp at h
    obtain ⟨k1, k2⟩ := Loop_all0 (b := scansionref17_Right.b1 g) (fun s => ∀ xs, g.Edges[s]? = some xs → RowOk s xs) g.Final.length (r := false) (R := true) (fun s hlt hp => by
        have hx : g.Edges[s]? = some (g.Edges[s]'(by omega)) := List.getElem?_eq_getElem _
        unfold scansionref17_Right.b1
        rw [if_pos (by simp; omega), (ref_Right_row hx (by omega) (hs _ (List.getElem_mem _))).1 (hp _ hx)])
      (fun s hlt hp => by
        have hx : g.Edges[s]? = some (g.Edges[s]'(by omega)) := List.getElem?_eq_getElem _
        unfold scansionref17_Right.b1
        rw [if_pos (by simp; omega), (ref_Right_row hx (by omega) (hs _ (List.getElem_mem _))).2 (fun h => hp fun xs he => by rw [hx] at he; cases he; exact h)])
      (by unfold scansionref17_Right.b1; rw [if_neg (by simp)]; rfl)
    by_cases hr : RightP g
    · rw [k1 (fun s hlt => hr.rows s (by omega))]; simp [hr]
    · rw [k2 (fun hrows => hr ⟨by omega, by omega, by omega, fun s hlt => hrows s (by omega)⟩)]; simp [hr]
end Go.Val

/- part P3 -/
/- Plain lemmas: how many words lead to an end. -/
namespace Go.Val
set_option linter.unusedVariables false
def cap : Int := 1099511627776
def crow (cs : List Int) (n : Int) (xs : List TEdge) : Int := xs.foldl (fun n x => mn (n + cs.getD x.To.toNat 0) cap) n
def cstep (cs : List Int) (p : Bool × List TEdge) : Int := crow cs (if p.1 then 1 else 0) p.2
def counts (rows : List (Bool × List TEdge)) : List Int := rows.foldl (fun cs p => cs ++ [cstep cs p]) []
def rowsOf (g : TGraph) : List (Bool × List TEdge) := g.Final.zip g.Edges

theorem counts_snoc {rows : List (Bool × List TEdge)} {p : Bool × List TEdge} : counts (rows ++ [p]) = counts rows ++ [cstep (counts rows) p] := by simp [counts]
theorem counts_len (rows : List (Bool × List TEdge)) : (counts rows).length = rows.length := by
  induction rows using snoc_ind with
  | h0 => rfl
  | h1 rows p ih => rw [counts_snoc]; simp [ih]
theorem mn_le {a b : Int} : mn a b ≤ b ∧ mn a b ≤ a := by unfold mn; split <;> omega
theorem mn_ge {a b c : Int} (h1 : c ≤ a) (h2 : c ≤ b) : c ≤ mn a b := by unfold mn; split <;> omega
theorem getD_bound {cs : List Int} (hc : ∀ c ∈ cs, 0 ≤ c ∧ c ≤ cap) (i : Nat) : 0 ≤ cs.getD i 0 ∧ cs.getD i 0 ≤ cap := by
  rw [List.getD_eq_getElem?_getD]
  cases h : cs[i]? with
  | none => simp [cap]
  | some c => simpa using hc c (List.mem_of_getElem? h)
theorem crow_bound {cs : List Int} (hc : ∀ c ∈ cs, 0 ≤ c ∧ c ≤ cap) : ∀ (xs : List TEdge) {n : Int}, 0 ≤ n → n ≤ cap → 0 ≤ crow cs n xs ∧ crow cs n xs ≤ cap
  | [], n, h1, h2 => ⟨h1, h2⟩
  | x :: xs, n, h1, h2 => by
    have hb := getD_bound hc x.To.toNat
    exact crow_bound hc xs (mn_ge (by omega) (by simp [cap])) mn_le.1
theorem counts_bound (rows : List (Bool × List TEdge)) : ∀ c ∈ counts rows, 0 ≤ c ∧ c ≤ cap := by
  induction rows using snoc_ind with
  | h0 => intro c hc; simp [counts] at hc
  | h1 rows p ih =>
    intro c hc
    rw [counts_snoc] at hc
    rcases List.mem_append.1 hc with hc | hc
    · exact ih c hc
    · simp at hc; subst hc
      exact crow_bound ih _ (by split <;> omega) (by split <;> simp [cap])
theorem counts_take (rows : List (Bool × List TEdge)) (s : Nat) : counts (rows.take s) = (counts rows).take s := by
  induction rows using snoc_ind with
  | h0 => simp [counts]
  | h1 rows p ih =>
    by_cases h : s ≤ rows.length
    · rw [List.take_append_of_le_length h, ih, counts_snoc, List.take_append_of_le_length (by rw [counts_len]; exact h)]
    · rw [List.take_of_length_le (by simp; omega), List.take_of_length_le (by rw [counts_len]; simp; omega)]
theorem rows_at {g : TGraph} {s : Nat} {f : Bool} {xs : List TEdge} (h1 : g.Final[s]? = some f) (h2 : g.Edges[s]? = some xs) : (rowsOf g)[s]? = some (f, xs) := by
  simp [rowsOf, List.zip, List.getElem?_zipWith, h1, h2]
theorem rows_len {g : TGraph} (h : g.Edges.length = g.Final.length) : (rowsOf g).length = g.Final.length := by simp [rowsOf, h]
theorem take_snoc {α : Type} {l : List α} {s : Nat} {x : α} (h : l[s]? = some x) : l.take (s + 1) = l.take s ++ [x] := by
  rw [List.take_add_one, h]; rfl
theorem counts_next {g : TGraph} {s : Nat} {f : Bool} {xs : List TEdge} (h1 : g.Final[s]? = some f) (h2 : g.Edges[s]? = some xs) : counts ((rowsOf g).take (s + 1)) = counts ((rowsOf g).take s) ++ [crow (counts ((rowsOf g).take s)) (if f then 1 else 0) xs] := by
  rw [take_snoc (rows_at h1 h2), counts_snoc]; rfl
theorem crow_snoc {cs : List Int} {n : Int} {xs : List TEdge} {x : TEdge} : crow cs n (xs ++ [x]) = mn (crow cs n xs + cs.getD x.To.toNat 0) cap := by simp [crow]

/-- The document's Count. -/
theorem ref_Count_row {g : TGraph} {s : Nat} {xs : List TEdge} {f : Bool} (hg : g.Edges[s]? = some xs) (hf : g.Final[s]? = some f) (hs : s < 65536) (hl : xs.length ≤ 140737488355328) (hr : RowOk s xs) (hlen : s ≤ (rowsOf g).length) {n : Int} (hn : n = if f then 1 else 0) :
    Loop (scansionref17_Count.b2 g (counts ((rowsOf g).take s)) s) (n, 0) = some (.next (counts ((rowsOf g).take (s + 1)), ((s + 1 : Nat) : Int))) := by
  have hcl : (counts ((rowsOf g).take s)).length = s := by rw [counts_len]; simp; omega
  have hcb := counts_bound ((rowsOf g).take s)
  generalize hcs : counts ((rowsOf g).take s) = cs at *
  have := Loop_run (b := scansionref17_Count.b2 g cs s) (fun k => (crow cs n (xs.take k), (k : Int))) (i := 0) (n := xs.length) (Nat.zero_le _) (fun k _ hk => by
    have hx : xs[k]? = some xs[k] := List.getElem?_eq_getElem hk
    have hok := hr k hk _ hx
    have hb := crow_bound hcb (xs.take k) (n := n) (by rw [hn]; split <;> omega) (by rw [hn]; split <;> simp [cap])
    have hc : cs[xs[k].To.toNat]? = some (cs[xs[k].To.toNat]'(by omega)) := List.getElem?_eq_getElem _
    have hgd : cs.getD xs[k].To.toNat 0 = cs[xs[k].To.toNat]'(by omega) := by rw [List.getD_eq_getElem?_getD, hc]; rfl
    have hb2 := getD_bound hcb xs[k].To.toNat
    rw [scansionref17_Count.b2, idx_nat, hg, Option.bind_some, if_pos (by simp; omega), idx_nat, hx, Option.bind_some, idx_some hok.1 hc, Option.bind_some, w64s (by omega), take_snoc hx, crow_snoc, hgd]
    rw [hgd] at hb2
    simp only [cap] at hb hb2
    rw [w64 (by omega) (by omega)]
    rfl)
  simp only [List.take_zero, List.take_length] at this
  have e0 : crow cs n [] = n := rfl
  rw [e0] at this
  rw [show ((0 : Nat) : Int) = 0 from rfl] at this
  rw [this]
  apply Loop_end
  rw [scansionref17_Count.b2, idx_nat, hg, Option.bind_some, if_neg (by simp)]
  unfold scansionref17_Count.k4 scansionref17_Count.k2
  rw [room_ok (by omega), Option.bind_some, w64s (by omega), counts_next hf hg, hcs, hn]
theorem ref_Count_eq {g : TGraph} (hs : Short g) (hr : RightP g) : scansionref17_Count g = some (counts (rowsOf g), 0) := by
  unfold scansionref17_Count
  rw [ref_Right_eq hs, Option.bind_some, if_neg (by simp [hr])]
  have hl := rows_len hr.len
  have := Loop_run (b := scansionref17_Count.b1 g) (fun s => (counts ((rowsOf g).take s), (s : Int))) (i := 0) (n := g.Final.length) (Nat.zero_le _) (fun s _ hlt => by
    have h1 : g.Final[s]? = some g.Final[s] := List.getElem?_eq_getElem hlt
    have h2 : g.Edges[s]? = some (g.Edges[s]'(by have := hr.len; omega)) := List.getElem?_eq_getElem _
    have hrow := hr.rows s (by have := hr.len; omega) _ h2
    have hi := hr.hi
    rw [scansionref17_Count.b1, if_pos (by simp; omega), idx_nat, h1, Option.bind_some]
    split
    · rename_i hf
      exact ref_Count_row h2 h1 (by omega) (hs _ (List.getElem_mem _)) hrow (by omega) (by simp [hf])
    · rename_i hf
      exact ref_Count_row h2 h1 (by omega) (hs _ (List.getElem_mem _)) hrow (by omega) (by simp [hf]))
  simp only [List.take_zero] at this
  rw [show ((0 : Nat) : Int) = 0 from rfl] at this
  rw [show counts [] = [] from rfl] at this
  rw [this]
  apply Loop_end
  rw [scansionref17_Count.b1, if_neg (by simp)]
  unfold scansionref17_Count.k1
  rw [List.take_of_length_le (by omega)]
/-- The program's Count: the list is there from the first, and filled. -/
def filled (cs : List Int) (n : Nat) : List Int := cs ++ List.replicate (n - cs.length) 0
theorem filled_set {cs : List Int} {n : Nat} {v : Int} (h : cs.length < n) (m : Int) : (cs ++ m :: List.replicate (n - cs.length - 1) 0).set cs.length v = cs ++ v :: List.replicate (n - cs.length - 1) 0 := by
  rw [List.set_append_right _ _ (Nat.le_refl _)]; simp
theorem filled_eq {cs : List Int} {n : Nat} (h : cs.length < n) : filled cs n = cs ++ 0 :: List.replicate (n - cs.length - 1) 0 := by
  unfold filled
  obtain ⟨m, hm⟩ : ∃ m, n - cs.length = m + 1 := ⟨n - cs.length - 1, by omega⟩
  rw [hm]; simp [List.replicate_succ]
theorem filled_snoc {cs : List Int} {n : Nat} {v : Int} (h : cs.length < n) : cs ++ v :: List.replicate (n - cs.length - 1) 0 = filled (cs ++ [v]) n := by
  unfold filled
  simp only [List.length_append, List.length_cons, List.length_nil, List.append_assoc, List.cons_append, List.nil_append]
  congr 3
theorem dawg_Count_row {g : TGraph} {s N : Nat} {xs : List TEdge} {f : Bool} (hg : g.Edges[s]? = some xs) (hf : g.Final[s]? = some f) (hs : s < N) (hN : N ≤ 65536) (hl : xs.length ≤ 140737488355328) (hr : RowOk s xs) (hlen : s ≤ (rowsOf g).length) {n : Int} (hn : n = if f then 1 else 0) {cs : List Int} (hcs : counts ((rowsOf g).take s) = cs) :
    Loop (dawg_Count.b2 s xs) (cs ++ n :: List.replicate (N - cs.length - 1) 0, 0) = some (.next (filled (counts ((rowsOf g).take (s + 1))) N, ((s + 1 : Nat) : Int))) := by
  have hcl : cs.length = s := by rw [← hcs, counts_len]; simp; omega
  have hcb : ∀ c ∈ cs, 0 ≤ c ∧ c ≤ cap := by rw [← hcs]; exact counts_bound _
  have := Loop_run (b := dawg_Count.b2 s xs) (fun k => (cs ++ crow cs n (xs.take k) :: List.replicate (N - cs.length - 1) 0, (k : Int))) (i := 0) (n := xs.length) (Nat.zero_le _) (fun k _ hk => by
    have hx : xs[k]? = some xs[k] := List.getElem?_eq_getElem hk
    have hok := hr k hk _ hx
    have hb := crow_bound hcb (xs.take k) (n := n) (by rw [hn]; split <;> omega) (by rw [hn]; split <;> simp [cap])
    have hc : cs[xs[k].To.toNat]? = some (cs[xs[k].To.toNat]'(by omega)) := List.getElem?_eq_getElem _
    have hgd : cs.getD xs[k].To.toNat 0 = cs[xs[k].To.toNat]'(by omega) := by rw [List.getD_eq_getElem?_getD, hc]; rfl
    have hb2 := getD_bound hcb xs[k].To.toNat
    have r1 : (cs ++ crow cs n (xs.take k) :: List.replicate (N - cs.length - 1) 0)[s]? = some (crow cs n (xs.take k)) := by
      rw [List.getElem?_append_right (by omega), hcl, Nat.sub_self]; rfl
    have r2 : (cs ++ crow cs n (xs.take k) :: List.replicate (N - cs.length - 1) 0)[xs[k].To.toNat]? = some (cs[xs[k].To.toNat]'(by omega)) := by
      rw [List.getElem?_append_left (by omega)]; exact hc
    rw [dawg_Count.b2, if_pos (by simp; omega), idx_nat, hx, Option.bind_some, idx_nat, r1, Option.bind_some, idx_some hok.1 r2, Option.bind_some, w64s (by omega), take_snoc hx, crow_snoc, hgd]
    rw [hgd] at hb2
    simp only [cap] at hb hb2
    rw [w64 (by omega) (by omega), Int.toNat_natCast]
    have e : ∀ v, (cs ++ crow cs n (List.take k xs) :: List.replicate (N - cs.length - 1) 0).set s v = cs ++ v :: List.replicate (N - cs.length - 1) 0 := fun v => by
      have := filled_set (cs := cs) (n := N) (v := v) (by omega) (crow cs n (List.take k xs))
      rwa [hcl] at this ⊢
    rw [e]
    rfl)
  simp only [List.take_zero, List.take_length] at this
  have e0 : crow cs n [] = n := rfl
  rw [e0, show ((0 : Nat) : Int) = 0 from rfl] at this
  rw [this]
  apply Loop_end
  rw [dawg_Count.b2, if_neg (by simp)]
  unfold dawg_Count.k2
  rw [w64s (by omega), counts_next hf hg, hcs, ← hn, filled_snoc (by omega)]
theorem dawg_Count_eq {g : TGraph} (hs : Short g) (hr : RightP g) : dawg_Count g = some (counts (rowsOf g), 0) := by
  unfold dawg_Count
  have hl := rows_len hr.len
  have hi := hr.hi
  rw [dawg_Right_eq hs, Option.bind_some, if_neg (by simp [hr]), mk_ok (by omega), Option.bind_some]
  have := Loop_run (b := dawg_Count.b1 g) (fun s => (filled (counts ((rowsOf g).take s)) g.Final.length, (s : Int))) (i := 0) (n := g.Final.length) (Nat.zero_le _) (fun s _ hlt => by
    have h1 : g.Final[s]? = some g.Final[s] := List.getElem?_eq_getElem hlt
    have h2 : g.Edges[s]? = some (g.Edges[s]'(by have := hr.len; omega)) := List.getElem?_eq_getElem _
    have hrow := hr.rows s (by have := hr.len; omega) _ h2
    have hcl : (counts ((rowsOf g).take s)).length = s := by rw [counts_len]; simp; omega
    have hfe := filled_eq (cs := counts ((rowsOf g).take s)) (n := g.Final.length) (by omega)
    rw [dawg_Count.b1, if_pos (by have := hr.len; simp; omega), idx_nat, h2, Option.bind_some, idx_nat, h1, Option.bind_some]
    split
    · rename_i hf
      have h3 : (filled (counts ((rowsOf g).take s)) g.Final.length)[s]? = some 0 := by
        rw [hfe, List.getElem?_append_right (by omega), hcl, Nat.sub_self]; rfl
      rw [idx_nat, h3, Option.bind_some, Int.toNat_natCast, hfe]
      have e := filled_set (cs := counts ((rowsOf g).take s)) (n := g.Final.length) (v := 1) (by omega) 0
      rw [hcl] at e
      unfold dawg_Count.k3
      rw [hcl, e]
      have := dawg_Count_row (N := g.Final.length) h2 h1 hlt hi (hs _ (List.getElem_mem _)) hrow (by omega) (n := 1) (by simp [hf]) rfl
      rwa [hcl] at this
    · rename_i hf
      unfold dawg_Count.k3
      rw [hfe]
      exact dawg_Count_row (N := g.Final.length) h2 h1 hlt hi (hs _ (List.getElem_mem _)) hrow (by omega) (n := 0) (by simp [hf]) rfl)
  have e0 : filled (counts ((rowsOf g).take 0)) g.Final.length = List.replicate (Int.toNat (g.Final.length : Int)) 0 := by simp [filled, counts]
  simp only [e0] at this
  rw [show ((0 : Nat) : Int) = 0 from rfl] at this
  rw [this]
  apply Loop_end
  rw [dawg_Count.b1, if_neg (by have := hr.len; simp; omega)]
  unfold dawg_Count.k1
  rw [List.take_of_length_le (by omega)]
  simp [filled, counts_len, hl]
theorem dawg_Count_bad {g : TGraph} (hs : Short g) (hr : ¬ RightP g) : dawg_Count g = some ([], 1) := by
  unfold dawg_Count
  rw [dawg_Right_eq hs, Option.bind_some, if_pos (by simp [hr])]
end Go.Val

/- part P4 -/
/- Plain lemmas: a state has as many ends as those that it leads to (DawgSum). -/
namespace Go.Val
set_option linter.unusedVariables false
def sumTo (cs : List Int) (n : Int) (xs : List TEdge) : Int := xs.foldl (fun n x => n + cs.getD x.To.toNat 0) n
theorem sumTo_snoc {cs : List Int} {n : Int} {xs : List TEdge} {x : TEdge} : sumTo cs n (xs ++ [x]) = sumTo cs n xs + cs.getD x.To.toNat 0 := by simp [sumTo]
theorem sumTo_bound {cs : List Int} (hc : ∀ c ∈ cs, 0 ≤ c ∧ c ≤ cap) {n : Int} (h1 : 0 ≤ n) (h2 : n ≤ 1) (xs : List TEdge) : 0 ≤ sumTo cs n xs ∧ sumTo cs n xs ≤ 1 + xs.length * cap := by
  induction xs using snoc_ind with
  | h0 => simp [sumTo]; omega
  | h1 xs x ih =>
    rw [sumTo_snoc]
    have := getD_bound hc x.To.toNat
    simp only [List.length_append, List.length_cons, List.length_nil, cap] at *
    omega
theorem crow_sum {cs : List Int} (hc : ∀ c ∈ cs, 0 ≤ c ∧ c ≤ cap) {n : Int} (h1 : 0 ≤ n) (h2 : n ≤ 1) (xs : List TEdge) : crow cs n xs = mn (sumTo cs n xs) cap := by
  induction xs using snoc_ind with
  | h0 =>
    show n = mn n cap
    unfold mn cap; split <;> omega
  | h1 xs x ih =>
    rw [crow_snoc, sumTo_snoc, ih]
    have := getD_bound hc x.To.toNat
    have := sumTo_bound hc h1 h2 xs
    unfold mn
    repeat' split
    all_goals omega
theorem sumTo_congr {cs cs' : List Int} {xs : List TEdge} {n : Int} (h : ∀ x ∈ xs, cs.getD x.To.toNat 0 = cs'.getD x.To.toNat 0) : sumTo cs n xs = sumTo cs' n xs := by
  induction xs using snoc_ind with
  | h0 => rfl
  | h1 xs x ih => rw [sumTo_snoc, sumTo_snoc, ih fun y hy => h y (by simp [hy]), h x (by simp)]

end Go.Val

/- A value semantics of the model's programs, sound against it, and functions read off the given program with the proofs that it runs so; no condition. -/
import Derived.Test.YtobjdbpikecnnaaOwnD
import Derived.Test.YtobjdbpikecnnaaOwnC
set_option linter.all false
set_option linter.unnecessarySimpa false
set_option linter.unusedVariables false
set_option linter.unusedSimpArgs false
/- part GW33 -/
/- scansion/scansionref17.Count runs as it is read off. -/
namespace Go.Val
set_option linter.unusedVariables false
set_option linter.unusedSimpArgs false
set_option maxRecDepth 20000
open Go.Proofs
theorem scansionref17_Count_runs (g : TGraph) {h : Heap} {a : (List Int × Int)} (e : scansionref17_Count g = some a) :
    Runs CT 33 [.cv (.val (.agg [.sl (List.map eB g.Final), .sl (List.map (eL eEdge) g.Edges)]))] h fun o h' => o = [.cv (.val (.sl (List.map eI a.1))), .cv (.val (.int .i64 a.2))] ∧ h' = h := by
  refine Runs.start Try.f33 _ Try.func33 rfl (by rw [Try.ntmps33]; simp) (by rfl) (by rfl) (fun hwf hu => ?_)
  obtain ⟨D, hD, hr⟩ : ∃ D : (List Int × Int) → Prop, (∀ z, D z → z = a) ∧ Holds (scansionref17_Count g) D := ⟨fun z => z = a, fun _ h => h, Holds.intro e rfl⟩
  dsimp only [scansionref17_Count] at hr
  change wpCode _ _ _ _ _ ⟨[(0, .cv (.val (.agg [.sl (List.map eB g.Final), .sl (List.map (eL eEdge) g.Edges)])))], h.on []⟩
  refine w_seq ?_
  refine A_region ?_
  refine w_n ?_
  refine w_seq ?_
  refine A_ops ?_
  refine A_upto 1 ?_
  obtain ⟨r, eF1, hr⟩ := hr.bind
  refine A_call (out := ?o_eF1) (hp := ?p_eF1) ?c_eF1 ?d_eF1 ?_
  case c_eF1 => exact scansionref17_Right_runs g eF1
  case d_eF1 => rfl
  refine A_ops_end ?_
  refine w_n ?_
  refine w_seq ?_
  refine w_seq ?_
  refine A_region ?_
  refine w_n ?_
  refine A_condH hr (fun cF2 hr => ?_) (fun cF2 hr => ?_)
  · refine w_seq ?_
    refine A_region ?_
    refine w_n ?_
    refine w_ret ?_
    obtain rfl := hD _ hr
    exact (w_tr (A_endR (A_cut (os' := []) (sl := [(2, .cv (.val (.sl (List.map eI ([] : List Int))))), (3, .cv (.val (.int .i64 (1 : Int))))]) hwf) ⟨rfl, on_nil hwf⟩))
  · refine w_skip ?_
    refine w_n ?_
    refine w_seq ?_
    refine A_region ?_
    refine w_n ?_
    refine w_seq ?_
    refine w_seq ?_
    refine A_region ?_
    refine w_n ?_
    refine w_K (D := D) (fun xX : List Int => ⟨[(5, .cv (.row 3 (List.map eI xX)))], h.on []⟩) (fun xX : List Int => scansionref17_Count.k1 xX) (fun xX s' hr ht => ?_) ?_
    · obtain ⟨out, rfl⟩ : ∃ z, z = xX := ⟨xX, rfl⟩
      dsimp only [scansionref17_Count.k1] at hr ht
      refine (w_nT ht ?_)
      refine w_seq ?_
      refine A_region ?_
      refine w_n ?_
      refine w_ret ?_
      obtain rfl := hD _ hr
      exact (A_endR (.fix _ _ (.slot 2) 3 _ (by simp (disch := (apply Apart.mk; decide)) only [go_sem, Nat.reduceAdd, Nat.reduceLT, Nat.reduceMul, Nat.reduceLeDiff, Int.reduceToNat, Int.reduceLT, Int.reduceLE, cF2]; rfl) (A_cut (os' := []) (sl := [(2, .cv (.val (.sl (List.map eI out)))), (3, .cv (.val (.int .i64 (0 : Int))))]) hwf)) ⟨rfl, on_nil hwf⟩)
    · refine w_block ?_
      refine w_Loop (fun xX : (List Int × Int) => ⟨[(1, .cv (.val (.ptr (some (h.n + 0, 0))))), (5, .cv (.row 3 (List.map eI xX.1))), (6, .cv (.val (.int .i64 xX.2)))], h.on [some (.cells [.val (.sl (List.map eB g.Final)), .val (.sl (List.map (eL eEdge) g.Edges))])]⟩) hr (A_cut hwf) (fun W1 xX hr => ?_)
      obtain ⟨out1, s⟩ := xX
      dsimp only [scansionref17_Count.b1] at hr
      refine w_seq ?_
      refine w_seq ?_
      refine A_region ?_
      refine w_n ?_
      refine A_condH hr (fun cF3 hr => ?_) (fun cF3 hr => ?_)
      · refine w_skip ?_
        refine w_n ?_
        refine w_seq ?_
        refine w_K (D := (Aft W1 D)) (fun xX : List Int => ⟨[(1, .cv (.val (.ptr (some (h.n + 0, 0))))), (5, .cv (.row 3 (List.map eI xX))), (6, .cv (.val (.int .i64 s)))], h.on [some (.cells [.val (.sl (List.map eB g.Final)), .val (.sl (List.map (eL eEdge) g.Edges))])]⟩) (fun xX : List Int => scansionref17_Count.k2 s xX) (fun xX s' hr ht => ?_) ?_
        · obtain ⟨out2, rfl⟩ : ∃ z, z = xX := ⟨xX, rfl⟩
          dsimp only [scansionref17_Count.k2] at hr ht
          refine (w_nT ht ?_)
          refine A_region ?_
          exact (w_k ⟨(out2, (IntKind.i64.wrap (s + (1 : Int)))), hr, (A_cut hwf)⟩)
        · refine w_block ?_
          refine w_seq ?_
          refine A_region ?_
          refine w_n ?_
          refine w_seq ?_
          refine w_seq ?_
          obtain ⟨b, nF4, eF5, gF6, hr⟩ := hr.idx
          refine A_region ?_
          refine w_n ?_
          refine w_K (D := (Aft W1 D)) (fun xX : Int => ⟨[(1, .cv (.val (.ptr (some (h.n + 0, 0))))), (5, .cv (.row 3 (List.map eI out1))), (6, .cv (.val (.int .i64 s))), (7, .cv (.val (.int .i64 xX)))], h.on [some (.cells [.val (.sl (List.map eB g.Final)), .val (.sl (List.map (eL eEdge) g.Edges))])]⟩) (fun xX : Int => scansionref17_Count.k3 g out1 s xX) (fun xX s' hr ht => ?_) ?_
          · obtain ⟨n, rfl⟩ : ∃ z, z = xX := ⟨xX, rfl⟩
            dsimp only [scansionref17_Count.k3] at hr ht
            refine (w_nT ht ?_)
            refine w_seq ?_
            refine w_seq ?_
            refine A_region ?_
            refine w_n ?_
            refine w_K (D := (Aft W1 D)) (fun xX : Int => ⟨[(1, .cv (.val (.ptr (some (h.n + 0, 0))))), (5, .cv (.row 3 (List.map eI out1))), (6, .cv (.val (.int .i64 s))), (7, .cv (.val (.int .i64 xX)))], h.on [some (.cells [.val (.sl (List.map eB g.Final)), .val (.sl (List.map (eL eEdge) g.Edges))])]⟩) (fun xX : Int => scansionref17_Count.k4 out1 s xX) (fun xX s' hr ht => ?_) ?_
            · obtain ⟨n1, rfl⟩ : ∃ z, z = xX := ⟨xX, rfl⟩
              dsimp only [scansionref17_Count.k4] at hr ht
              refine (w_nT ht ?_)
              obtain ⟨nF7, hr⟩ := hr.room
              refine A_region ?_
              exact (w_bn (w_k ⟨(out1 ++ ([n1])), hr, (A_cut hwf)⟩))
            · refine w_block ?_
              refine w_Loop (fun xX : (Int × Int) => ⟨[(1, .cv (.val (.ptr (some (h.n + 0, 0))))), (5, .cv (.row 3 (List.map eI out1))), (6, .cv (.val (.int .i64 s))), (7, .cv (.val (.int .i64 xX.1))), (8, .cv (.val (.int .i64 xX.2)))], h.on [some (.cells [.val (.sl (List.map eB g.Final)), .val (.sl (List.map (eL eEdge) g.Edges))])]⟩) hr (A_cut hwf) (fun W2 xX hr => ?_)
              obtain ⟨n2, k⟩ := xX
              dsimp only [scansionref17_Count.b2] at hr
              refine w_seq ?_
              refine w_seq ?_
              obtain ⟨xs, nF8, eF9, gF10, hr⟩ := hr.idx
              refine A_region ?_
              refine w_n ?_
              refine A_condH hr (fun cF11 hr => ?_) (fun cF11 hr => ?_)
              · refine w_skip ?_
                refine w_n ?_
                refine w_seq ?_
                refine w_block ?_
                obtain ⟨x, nF12, eF13, gF14, hr⟩ := hr.idx
                obtain ⟨n3, nF15, eF16, gF17, hr⟩ := hr.idx
                refine A_region ?_
                refine (w_bn (w_n ?_))
                refine A_region ?_
                exact (w_k ⟨((mn (IntKind.i64.wrap (n2 + n3)) (1099511627776 : Int)), (IntKind.i64.wrap (k + (1 : Int)))), hr, (A_cut hwf)⟩)
              · refine w_exit ?_
                exact (w_te (w_te (w_bx (w_k ⟨n2, (hr).map, (A_cut hwf)⟩))))
          · refine A_condH hr (fun cF18 hr => ?_) (fun cF18 hr => ?_)
            · refine A_region ?_
              exact (w_k ⟨(1 : Int), hr, (A_cut hwf)⟩)
            · refine w_skip ?_
              exact (w_k ⟨(0 : Int), hr, (A_cut hwf)⟩)
      · refine w_exit ?_
        exact (w_te (w_te (w_bx (w_k ⟨out1, (hr).map, (A_cut hwf)⟩))))
end Go.Val

/- part GW59 -/
/- (*scansion/scansionref18.Array).Words runs as it is read off. -/
namespace Go.Val
set_option linter.unusedVariables false
set_option linter.unusedSimpArgs false
set_option maxRecDepth 20000
open Go.Proofs
theorem scansionref18_Array_Words_runs (a_ : Tscansionref18_Array) (l0 : Nat) {h : Heap} (ha0 : h.at_ l0 = some (.cells [.val (.sl (List.map eB a_.G.Final)), .val (.sl (List.map (eL eEdge) a_.G.Edges)), .val (.int .i64 a_.Cells)])) {a : Int} (e : scansionref18_Array_Words a_ = some a) :
    Runs CT 59 [.cv (.val (.ptr (some (l0, 0))))] h fun o h' => o = [.cv (.val (.int .i64 a))] ∧ h' = h := by
  refine Runs.start Try.f59 _ Try.func59 rfl (by rw [Try.ntmps59]; simp) (by rfl) (by rfl) (fun hwf hu => ?_)
  have hl0 := (hwf _ _ ha0).1
  have kl0 := locF hl0
  obtain ⟨D, hD, hr⟩ : ∃ D : Int → Prop, (∀ z, D z → z = a) ∧ Holds (scansionref18_Array_Words a_) D := ⟨fun z => z = a, fun _ h => h, Holds.intro e rfl⟩
  dsimp only [scansionref18_Array_Words] at hr
  change wpCode _ _ _ _ _ ⟨[(0, .cv (.val (.ptr (some (l0, 0)))))], h.on []⟩
  refine w_seq ?_
  refine A_region ?_
  refine w_n ?_
  refine w_seq ?_
  refine A_ops ?_
  refine A_upto 4 ?_
  obtain ⟨r, eF1, hr⟩ := hr.bind
  refine A_call (out := ?o_eF1) (hp := ?p_eF1) ?c_eF1 ?d_eF1 ?_
  case c_eF1 => exact scansionref17_Count_runs a_.G eF1
  case d_eF1 => rfl
  refine A_ops_end ?_
  refine w_n ?_
  refine w_seq ?_
  obtain ⟨n, nF2, eF3, gF4, hr⟩ := hr.idx
  refine A_region ?_
  refine w_n ?_
  refine w_ret ?_
  obtain rfl := hD _ hr
  exact (A_endR (A_cut (os' := []) (sl := [(2, .cv (.val (.int .i64 n)))]) hwf) ⟨rfl, on_nil hwf⟩)
end Go.Val

/- part GW55 -/
/- scansion/scansionref17.to runs as it is read off. -/
namespace Go.Val
set_option linter.unusedVariables false
set_option linter.unusedSimpArgs false
set_option maxRecDepth 20000
open Go.Proofs
theorem scansionref17_to_runs (g : TGraph) (s : Int) (b : UInt8) {h : Heap} {a : Int} (e : scansionref17_to g s b = some a) :
    Runs CT 55 [.cv (.val (.agg [.sl (List.map eB g.Final), .sl (List.map (eL eEdge) g.Edges)])), .cv (.val (.int .i64 s)), .cv (.val (.int .u8 (b.toNat : Int)))] h fun o h' => o = [.cv (.val (.int .i64 a))] ∧ h' = h := by
  refine Runs.start Try.f55 _ Try.func55 rfl (by rw [Try.ntmps55]; simp) (by rfl) (by rfl) (fun hwf hu => ?_)
  obtain ⟨D, hD, hr⟩ : ∃ D : Int → Prop, (∀ z, D z → z = a) ∧ Holds (scansionref17_to g s b) D := ⟨fun z => z = a, fun _ h => h, Holds.intro e rfl⟩
  dsimp only [scansionref17_to] at hr
  change wpCode _ _ _ _ _ ⟨[(0, .cv (.val (.agg [.sl (List.map eB g.Final), .sl (List.map (eL eEdge) g.Edges)]))), (1, .cv (.val (.int .i64 s))), (2, .cv (.val (.int .u8 (b.toNat : Int))))], h.on []⟩
  refine w_seq ?_
  refine A_region ?_
  refine w_n ?_
  refine w_seq ?_
  refine w_seq ?_
  refine A_region ?_
  refine w_n ?_
  refine w_K (D := D) (fun xX : Unit => ⟨[], h.on []⟩) (fun xX : Unit => scansionref17_to.k1) (fun xX s' hr ht => ?_) ?_
  · dsimp only [scansionref17_to.k1] at hr ht
    refine (w_nT ht ?_)
    refine w_seq ?_
    refine A_region ?_
    refine w_n ?_
    refine w_ret ?_
    obtain rfl := hD _ hr
    exact (A_endR (A_cut (os' := []) (sl := [(6, .cv (.val (.int .i64 (-1 : Int))))]) hwf) ⟨rfl, on_nil hwf⟩)
  · refine w_block ?_
    refine w_Loop (fun xX : Int => ⟨[(1, .cv (.val (.int .i64 s))), (2, .cv (.val (.int .u8 (b.toNat : Int)))), (3, .cv (.val (.ptr (some (h.n + 0, 0))))), (7, .cv (.val (.int .i64 xX)))], h.on [some (.cells [.val (.sl (List.map eB g.Final)), .val (.sl (List.map (eL eEdge) g.Edges))])]⟩) hr (A_cut hwf) (fun W1 xX hr => ?_)
    obtain ⟨k, rfl⟩ : ∃ z, z = xX := ⟨xX, rfl⟩
    dsimp only [scansionref17_to.b1] at hr
    refine w_seq ?_
    refine w_seq ?_
    obtain ⟨xs, nF1, eF2, gF3, hr⟩ := hr.idx
    refine A_region ?_
    refine w_n ?_
    refine A_condH hr (fun cF4 hr => ?_) (fun cF4 hr => ?_)
    · refine w_skip ?_
      refine w_n ?_
      refine w_seq ?_
      refine w_block ?_
      refine w_seq ?_
      obtain ⟨x, nF5, eF6, gF7, hr⟩ := hr.idx
      refine A_region ?_
      refine w_n ?_
      refine A_condH hr (fun cF8 hr => ?_) (fun cF8 hr => ?_)
      · refine w_seq ?_
        refine A_region ?_
        refine w_n ?_
        refine w_ret ?_
        obtain rfl := hD _ hr
        exact (w_br (w_tr (w_tr (w_br (w_tr (w_tr (A_endR (A_cut (os' := []) (sl := [(6, .cv (.val (.int .i64 x.To)))]) hwf) ⟨rfl, on_nil hwf⟩)))))))
      · refine w_skip ?_
        refine (w_bn (w_n ?_))
        refine A_region ?_
        exact (w_k ⟨(IntKind.i64.wrap (k + (1 : Int))), hr, (A_cut hwf)⟩)
    · refine w_exit ?_
      exact (w_te (w_te (w_bx (w_k ⟨(), (hr).map, (A_cut hwf)⟩))))
end Go.Val

/- part GW30 -/
/- scansion/scansionref17.Has runs as it is read off. -/
namespace Go.Val
set_option linter.unusedVariables false
set_option linter.unusedSimpArgs false
set_option maxRecDepth 20000
open Go.Proofs
theorem scansionref17_Has_runs (g : TGraph) (word : Str) {h : Heap} {a : Bool} (e : scansionref17_Has g word = some a) :
    Runs CT 30 [.cv (.val (.agg [.sl (List.map eB g.Final), .sl (List.map (eL eEdge) g.Edges)])), .cv (.val (.str (bs word)))] h fun o h' => o = [.cv (.val (.bool a))] ∧ h' = h := by
  refine Runs.start Try.f30 _ Try.func30 rfl (by rw [Try.ntmps30]; simp) (by rfl) (by rfl) (fun hwf hu => ?_)
  obtain ⟨D, hD, hr⟩ : ∃ D : Bool → Prop, (∀ z, D z → z = a) ∧ Holds (scansionref17_Has g word) D := ⟨fun z => z = a, fun _ h => h, Holds.intro e rfl⟩
  dsimp only [scansionref17_Has] at hr
  change wpCode _ _ _ _ _ ⟨[(0, .cv (.val (.agg [.sl (List.map eB g.Final), .sl (List.map (eL eEdge) g.Edges)]))), (1, .cv (.val (.str (bs word))))], h.on []⟩
  refine w_seq ?_
  refine A_region ?_
  refine w_n ?_
  refine w_seq ?_
  refine A_ops ?_
  refine A_upto 1 ?_
  obtain ⟨r, eF1, hr⟩ := hr.bind
  refine A_call (out := ?o_eF1) (hp := ?p_eF1) ?c_eF1 ?d_eF1 ?_
  case c_eF1 => exact scansionref17_Right_runs g eF1
  case d_eF1 => rfl
  refine A_ops_end ?_
  refine w_n ?_
  refine w_seq ?_
  refine w_seq ?_
  refine A_region ?_
  refine w_n ?_
  refine A_condH hr (fun cF2 hr => ?_) (fun cF2 hr => ?_)
  · refine w_seq ?_
    refine A_region ?_
    refine w_n ?_
    refine w_ret ?_
    obtain rfl := hD _ hr
    exact (w_tr (A_endR (A_cut (os' := []) (sl := [(4, .cv (.val (.bool false)))]) hwf) ⟨rfl, on_nil hwf⟩))
  · refine w_skip ?_
    refine w_n ?_
    refine w_seq ?_
    refine A_region ?_
    refine w_n ?_
    refine w_seq ?_
    refine w_seq ?_
    refine A_region ?_
    refine w_n ?_
    refine w_K (D := D) (fun xX : Int => ⟨[(2, .cv (.val (.ptr (some (h.n + 0, 0))))), (6, .cv (.val (.int .i64 xX)))], h.on [some (.cells [.val (.sl (List.map eB g.Final)), .val (.sl (List.map (eL eEdge) g.Edges))])]⟩) (fun xX : Int => scansionref17_Has.k1 g xX) (fun xX s' hr ht => ?_) ?_
    · obtain ⟨s, rfl⟩ : ∃ z, z = xX := ⟨xX, rfl⟩
      dsimp only [scansionref17_Has.k1] at hr ht
      refine (w_nT ht ?_)
      refine w_seq ?_
      obtain ⟨b, nF3, eF4, gF5, hr⟩ := hr.idx
      refine A_region ?_
      refine w_n ?_
      refine w_ret ?_
      obtain rfl := hD _ hr
      exact (A_endR (A_cut (os' := []) (sl := [(4, .cv (.val (.bool b)))]) hwf) ⟨rfl, on_nil hwf⟩)
    · refine w_block ?_
      refine w_Loop (fun xX : (Int × Int) => ⟨[(1, .cv (.val (.str (bs word)))), (2, .cv (.val (.ptr (some (h.n + 0, 0))))), (6, .cv (.val (.int .i64 xX.1))), (7, .cv (.val (.int .i64 xX.2)))], h.on [some (.cells [.val (.sl (List.map eB g.Final)), .val (.sl (List.map (eL eEdge) g.Edges))])]⟩) hr (A_cut hwf) (fun W1 xX hr => ?_)
      obtain ⟨s1, i⟩ := xX
      dsimp only [scansionref17_Has.b1] at hr
      refine w_seq ?_
      refine w_seq ?_
      refine A_region ?_
      refine w_n ?_
      refine A_condH hr (fun cF6 hr => ?_) (fun cF6 hr => ?_)
      · refine w_skip ?_
        refine w_n ?_
        refine w_seq ?_
        refine w_block ?_
        refine w_seq ?_
        refine w_drawn [0, 1, 2, 3, 4, 5, 6] (by rfl) ?_
        obtain ⟨c, nF7, eF8, gF9, hr⟩ := hr.idx
        refine p_run (l := [0, 1, 2, 3, 4]) (pend' := [4, 3, 2, 1, 0]) (by simp (disch := (apply Apart.mk; decide)) only [go_sem, Nat.reduceAdd, Nat.reduceLT, Nat.reduceMul, Nat.reduceLeDiff, Int.reduceToNat, Int.reduceLT, Int.reduceLE, nF7, eF8, gF9]; rfl) rfl ?_
        obtain ⟨r1, eF10, hr⟩ := hr.bind
        refine p_call (out := ?o_eF10) (hp := ?p_eF10) (pend' := []) rfl (by simp (disch := (apply Apart.mk; decide)) only [go_sem, Nat.reduceAdd, Nat.reduceLT, Nat.reduceMul, Nat.reduceLeDiff, Int.reduceToNat, Int.reduceLT, Int.reduceLE, Option.getD_some, nF7, eF8, gF9]) rfl (by simp (disch := (apply Apart.mk; decide)) only [go_sem, Nat.reduceAdd, Nat.reduceLT, Nat.reduceMul, Nat.reduceLeDiff, Int.reduceToNat, Int.reduceLT, Int.reduceLE, Option.getD_some, nF7, eF8, gF9]; rfl) (by simp (disch := (apply Apart.mk; decide)) only [go_sem, Nat.reduceAdd, Nat.reduceLT, Nat.reduceMul, Nat.reduceLeDiff, Int.reduceToNat, Int.reduceLT, Int.reduceLE, Option.getD_some, nF7, eF8, gF9]; rfl) (by simp (disch := (apply Apart.mk; decide)) only [go_sem, Nat.reduceAdd, Nat.reduceLT, Nat.reduceMul, Nat.reduceLeDiff, Int.reduceToNat, Int.reduceLT, Int.reduceLE, Option.getD_some, nF7, eF8, gF9]; rfl) (by rfl) ?c_eF10 ?d_eF10 ?_
        case c_eF10 => exact scansionref17_to_runs g s1 c eF10
        case d_eF10 => rfl
        refine p_op (pend' := []) rfl (by simp (disch := (apply Apart.mk; decide)) only [go_sem, Nat.reduceAdd, Nat.reduceLT, Nat.reduceMul, Nat.reduceLeDiff, Int.reduceToNat, Int.reduceLT, Int.reduceLE, nF7, eF8, gF9]) (by simp (disch := (apply Apart.mk; decide)) only [go_sem, Nat.reduceAdd, Nat.reduceLT, Nat.reduceMul, Nat.reduceLeDiff, Int.reduceToNat, Int.reduceLT, Int.reduceLE, nF7, eF8, gF9]; rfl) (by rfl) ?_
        refine p_end (by simp (disch := (apply Apart.mk; decide)) only [go_sem, Nat.reduceAdd, Nat.reduceLT, Nat.reduceMul, Nat.reduceLeDiff, Int.reduceToNat, Int.reduceLT, Int.reduceLE, nF7, eF8, gF9]) ?_
        refine w_n ?_
        refine w_seq ?_
        refine A_region ?_
        refine w_n ?_
        refine A_condH hr (fun cF11 hr => ?_) (fun cF11 hr => ?_)
        · refine w_seq ?_
          refine A_region ?_
          refine w_n ?_
          refine w_ret ?_
          obtain rfl := hD _ hr
          exact (w_br (w_tr (w_tr (w_br (w_tr (w_tr (A_endR (A_cut (os' := []) (sl := [(4, .cv (.val (.bool false)))]) hwf) ⟨rfl, on_nil hwf⟩)))))))
        · refine w_skip ?_
          refine (w_bn (w_n ?_))
          refine A_region ?_
          exact (w_k ⟨(r1, (IntKind.i64.wrap (i + (1 : Int)))), hr, (A_cut hwf)⟩)
      · refine w_exit ?_
        exact (w_te (w_te (w_bx (w_k ⟨s1, (hr).map, (A_cut hwf)⟩))))
end Go.Val

/- part GW58 -/
/- (*scansion/scansionref18.Array).Prefixes runs as it is read off. -/
namespace Go.Val
set_option linter.unusedVariables false
set_option linter.unusedSimpArgs false
set_option maxRecDepth 20000
open Go.Proofs
theorem scansionref18_Array_Prefixes_runs (a_ : Tscansionref18_Array) (b : List UInt8) (l0 : Nat) {h : Heap} (ha0 : h.at_ l0 = some (.cells [.val (.sl (List.map eB a_.G.Final)), .val (.sl (List.map (eL eEdge) a_.G.Edges)), .val (.int .i64 a_.Cells)])) {a : List Int} (e : scansionref18_Array_Prefixes a_ b = some a) :
    Runs CT 58 [.cv (.val (.ptr (some (l0, 0)))), .cv (.val (.sl (List.map eU b)))] h fun o h' => o = [.cv (.val (.sl (List.map eI a)))] ∧ h' = h := by
  refine Runs.start Try.f58 _ Try.func58 rfl (by rw [Try.ntmps58]; simp) (by rfl) (by rfl) (fun hwf hu => ?_)
  have hl0 := (hwf _ _ ha0).1
  have kl0 := locF hl0
  obtain ⟨D, hD, hr⟩ : ∃ D : List Int → Prop, (∀ z, D z → z = a) ∧ Holds (scansionref18_Array_Prefixes a_ b) D := ⟨fun z => z = a, fun _ h => h, Holds.intro e rfl⟩
  dsimp only [scansionref18_Array_Prefixes] at hr
  change wpCode _ _ _ _ _ ⟨[(0, .cv (.val (.ptr (some (l0, 0))))), (1, .cv (.val (.sl (List.map eU b))))], h.on []⟩
  refine w_seq ?_
  refine A_region ?_
  refine w_n ?_
  refine w_seq ?_
  refine A_region ?_
  refine w_n ?_
  refine w_seq ?_
  refine w_seq ?_
  refine A_region ?_
  refine w_n ?_
  refine w_K (D := D) (fun xX : List Int => ⟨[(5, .cv (.row 3 (List.map eI xX)))], h.on []⟩) (fun xX : List Int => scansionref18_Array_Prefixes.k1 xX) (fun xX s' hr ht => ?_) ?_
  · obtain ⟨out, rfl⟩ : ∃ z, z = xX := ⟨xX, rfl⟩
    dsimp only [scansionref18_Array_Prefixes.k1] at hr ht
    refine (w_nT ht ?_)
    refine w_seq ?_
    refine A_region ?_
    refine w_n ?_
    refine w_ret ?_
    obtain rfl := hD _ hr
    exact (A_endR (.fix _ _ (.slot 4) 3 _ (by simp (disch := (apply Apart.mk; decide)) only [go_sem, Nat.reduceAdd, Nat.reduceLT, Nat.reduceMul, Nat.reduceLeDiff, Int.reduceToNat, Int.reduceLT, Int.reduceLE, ha0, on_atB hl0, lt_add hl0, lt_at hl0]; rfl) (A_cut (os' := []) (sl := [(4, .cv (.val (.sl (List.map eI out))))]) hwf)) ⟨rfl, on_nil hwf⟩)
  · refine w_block ?_
    refine w_Loop (fun xX : (List Int × Int) => ⟨[(0, .cv (.val (.ptr (some (l0, 0))))), (1, .cv (.val (.sl (List.map eU b)))), (5, .cv (.row 3 (List.map eI xX.1))), (6, .cv (.val (.int .i64 xX.2)))], h.on []⟩) hr (A_cut hwf) (fun W1 xX hr => ?_)
    obtain ⟨out1, n⟩ := xX
    dsimp only [scansionref18_Array_Prefixes.b1] at hr
    refine w_seq ?_
    refine w_seq ?_
    refine A_region ?_
    refine w_n ?_
    refine A_condH hr (fun cF1 hr => ?_) (fun cF1 hr => ?_)
    · refine w_skip ?_
      refine w_n ?_
      refine w_seq ?_
      refine w_K (D := (Aft W1 D)) (fun xX : List Int => ⟨[(0, .cv (.val (.ptr (some (l0, 0))))), (1, .cv (.val (.sl (List.map eU b)))), (5, .cv (.row 3 (List.map eI xX))), (6, .cv (.val (.int .i64 n)))], h.on []⟩) (fun xX : List Int => scansionref18_Array_Prefixes.k2 n xX) (fun xX s' hr ht => ?_) ?_
      · obtain ⟨out2, rfl⟩ : ∃ z, z = xX := ⟨xX, rfl⟩
        dsimp only [scansionref18_Array_Prefixes.k2] at hr ht
        refine (w_nT ht ?_)
        refine A_region ?_
        exact (w_k ⟨(out2, (IntKind.i64.wrap (n + (1 : Int)))), hr, (A_cut hwf)⟩)
      · refine w_block ?_
        refine w_seq ?_
        refine w_drawn [0, 1, 2, 3, 4, 5, 6, 7, 8, 9] (by rfl) ?_
        obtain ⟨nF2, nF3, hr⟩ := hr.cutH
        refine p_run (l := [0, 1, 2, 3, 4, 5, 6, 7]) (pend' := [7, 6, 5, 4, 3, 2, 1, 0]) (by simp (disch := (apply Apart.mk; decide)) only [go_sem, Nat.reduceAdd, Nat.reduceLT, Nat.reduceMul, Nat.reduceLeDiff, Int.reduceToNat, Int.reduceLT, Int.reduceLE, ha0, on_atB hl0, lt_add hl0, lt_at hl0, nF2, nF3]; rfl) rfl ?_
        obtain ⟨r, eF4, hr⟩ := hr.bind
        refine p_call (out := ?o_eF4) (hp := ?p_eF4) (pend' := []) rfl (by simp (disch := (apply Apart.mk; decide)) only [go_sem, Nat.reduceAdd, Nat.reduceLT, Nat.reduceMul, Nat.reduceLeDiff, Int.reduceToNat, Int.reduceLT, Int.reduceLE, ha0, on_atB hl0, lt_add hl0, lt_at hl0, Option.getD_some, nF2, nF3]) rfl (by simp (disch := (apply Apart.mk; decide)) only [go_sem, Nat.reduceAdd, Nat.reduceLT, Nat.reduceMul, Nat.reduceLeDiff, Int.reduceToNat, Int.reduceLT, Int.reduceLE, ha0, on_atB hl0, lt_add hl0, lt_at hl0, Option.getD_some, nF2, nF3]; rfl) (by simp (disch := (apply Apart.mk; decide)) only [go_sem, Nat.reduceAdd, Nat.reduceLT, Nat.reduceMul, Nat.reduceLeDiff, Int.reduceToNat, Int.reduceLT, Int.reduceLE, ha0, on_atB hl0, lt_add hl0, lt_at hl0, Option.getD_some, nF2, nF3]; rfl) (by simp (disch := (apply Apart.mk; decide)) only [go_sem, Nat.reduceAdd, Nat.reduceLT, Nat.reduceMul, Nat.reduceLeDiff, Int.reduceToNat, Int.reduceLT, Int.reduceLE, ha0, on_atB hl0, lt_add hl0, lt_at hl0, Option.getD_some, nF2, nF3]; rfl) (by rfl) ?c_eF4 ?d_eF4 ?_
        case c_eF4 => exact scansionref17_Has_runs a_.G (List.take (Int.toNat n) b) eF4
        case d_eF4 => rfl
        refine p_op (pend' := []) rfl (by simp (disch := (apply Apart.mk; decide)) only [go_sem, Nat.reduceAdd, Nat.reduceLT, Nat.reduceMul, Nat.reduceLeDiff, Int.reduceToNat, Int.reduceLT, Int.reduceLE, ha0, on_atB hl0, lt_add hl0, lt_at hl0, nF2, nF3]) (by simp (disch := (apply Apart.mk; decide)) only [go_sem, Nat.reduceAdd, Nat.reduceLT, Nat.reduceMul, Nat.reduceLeDiff, Int.reduceToNat, Int.reduceLT, Int.reduceLE, ha0, on_atB hl0, lt_add hl0, lt_at hl0, nF2, nF3]; rfl) (by rfl) ?_
        refine p_end (by simp (disch := (apply Apart.mk; decide)) only [go_sem, Nat.reduceAdd, Nat.reduceLT, Nat.reduceMul, Nat.reduceLeDiff, Int.reduceToNat, Int.reduceLT, Int.reduceLE, ha0, on_atB hl0, lt_add hl0, lt_at hl0, nF2, nF3]) ?_
        refine w_n ?_
        refine w_seq ?_
        refine A_region ?_
        refine w_n ?_
        refine A_condH hr (fun cF5 hr => ?_) (fun cF5 hr => ?_)
        · obtain ⟨nF6, hr⟩ := hr.room
          refine A_region ?_
          exact (w_bn (w_k ⟨(out1 ++ ([n])), hr, (A_cut hwf)⟩))
        · refine w_skip ?_
          exact (w_bn (w_k ⟨out1, hr, (A_cut hwf)⟩))
    · refine w_exit ?_
      exact (w_te (w_te (w_bx (w_k ⟨out1, (hr).map, (A_cut hwf)⟩))))
end Go.Val

/- part GW37 -/
/- scansion/scansionref17.Number runs as it is read off. -/
namespace Go.Val
set_option linter.unusedVariables false
set_option linter.unusedSimpArgs false
set_option maxRecDepth 20000
open Go.Proofs
theorem scansionref17_Number_runs (g : TGraph) (word : Str) {h : Heap} {a : (Int × Int)} (e : scansionref17_Number g word = some a) :
    Runs CT 37 [.cv (.val (.agg [.sl (List.map eB g.Final), .sl (List.map (eL eEdge) g.Edges)])), .cv (.val (.str (bs word)))] h fun o h' => o = [.cv (.val (.int .i64 a.1)), .cv (.val (.int .i64 a.2))] ∧ h' = h := by
  refine Runs.start Try.f37 _ Try.func37 rfl (by rw [Try.ntmps37]; simp) (by rfl) (by rfl) (fun hwf hu => ?_)
  obtain ⟨D, hD, hr⟩ : ∃ D : (Int × Int) → Prop, (∀ z, D z → z = a) ∧ Holds (scansionref17_Number g word) D := ⟨fun z => z = a, fun _ h => h, Holds.intro e rfl⟩
  dsimp only [scansionref17_Number] at hr
  change wpCode _ _ _ _ _ ⟨[(0, .cv (.val (.agg [.sl (List.map eB g.Final), .sl (List.map (eL eEdge) g.Edges)]))), (1, .cv (.val (.str (bs word))))], h.on []⟩
  refine w_seq ?_
  refine A_region ?_
  refine w_n ?_
  refine w_seq ?_
  refine A_ops ?_
  refine A_upto 1 ?_
  obtain ⟨r, eF1, hr⟩ := hr.bind
  refine A_call (out := ?o_eF1) (hp := ?p_eF1) ?c_eF1 ?d_eF1 ?_
  case c_eF1 => exact scansionref17_Count_runs g eF1
  case d_eF1 => rfl
  refine A_ops_end ?_
  refine w_n ?_
  refine w_seq ?_
  refine w_seq ?_
  refine A_region ?_
  refine w_n ?_
  refine A_condH hr (fun cF2 hr => ?_) (fun cF2 hr => ?_)
  · refine w_seq ?_
    refine A_region ?_
    refine w_n ?_
    refine w_ret ?_
    obtain rfl := hD _ hr
    exact (w_tr (A_endR (A_cut (os' := []) (sl := [(4, .cv (.val (.int .i64 (0 : Int)))), (5, .cv (.val (.int .i64 r.2)))]) hwf) ⟨rfl, on_nil hwf⟩))
  · refine w_skip ?_
    refine w_n ?_
    refine w_seq ?_
    refine A_ops ?_
    refine A_upto 2 ?_
    obtain ⟨r1, eF3, hr⟩ := hr.bind
    refine A_call (out := ?o_eF3) (hp := ?p_eF3) ?c_eF3 ?d_eF3 ?_
    case c_eF3 => exact scansionref17_Has_runs g word eF3
    case d_eF3 => rfl
    refine A_ops_end ?_
    refine w_n ?_
    refine w_seq ?_
    refine w_seq ?_
    refine A_region ?_
    refine w_n ?_
    refine A_condH hr (fun cF4 hr => ?_) (fun cF4 hr => ?_)
    · refine w_seq ?_
      refine A_region ?_
      refine w_n ?_
      refine w_ret ?_
      obtain rfl := hD _ hr
      exact (w_tr (A_endR (A_cut (os' := []) (sl := [(4, .cv (.val (.int .i64 (0 : Int)))), (5, .cv (.val (.int .i64 (4 : Int))))]) hwf) ⟨rfl, on_nil hwf⟩))
    · refine w_skip ?_
      refine w_n ?_
      refine w_seq ?_
      refine A_region ?_
      refine w_n ?_
      refine w_seq ?_
      refine A_region ?_
      refine w_n ?_
      refine w_seq ?_
      refine w_seq ?_
      refine A_region ?_
      refine w_n ?_
      refine w_K (D := D) (fun xX : Int => ⟨[(9, .cv (.val (.int .i64 xX)))], h.on []⟩) (fun xX : Int => scansionref17_Number.k1 xX) (fun xX s' hr ht => ?_) ?_
      · obtain ⟨n, rfl⟩ : ∃ z, z = xX := ⟨xX, rfl⟩
        dsimp only [scansionref17_Number.k1] at hr ht
        refine (w_nT ht ?_)
        refine w_seq ?_
        refine A_region ?_
        refine w_n ?_
        refine w_ret ?_
        obtain rfl := hD _ hr
        exact (A_endR (A_cut (os' := []) (sl := [(4, .cv (.val (.int .i64 (mn n (1099511627776 : Int))))), (5, .cv (.val (.int .i64 (0 : Int))))]) hwf) ⟨rfl, on_nil hwf⟩)
      · refine w_block ?_
        refine w_Loop (fun xX : (Int × Int × Int) => ⟨[(1, .cv (.val (.str (bs word)))), (2, .cv (.val (.ptr (some (h.n + 0, 0))))), (6, .cv (.val (.sl (List.map eI r.1)))), (9, .cv (.val (.int .i64 xX.1))), (10, .cv (.val (.int .i64 xX.2.1))), (11, .cv (.val (.int .i64 xX.2.2)))], h.on [some (.cells [.val (.sl (List.map eB g.Final)), .val (.sl (List.map (eL eEdge) g.Edges))])]⟩) hr (A_cut hwf) (fun W1 xX hr => ?_)
        obtain ⟨n1, s, i⟩ := xX
        dsimp only [scansionref17_Number.b1] at hr
        refine w_seq ?_
        refine w_seq ?_
        refine A_region ?_
        refine w_n ?_
        refine A_condH hr (fun cF5 hr => ?_) (fun cF5 hr => ?_)
        · refine w_skip ?_
          refine w_n ?_
          refine w_seq ?_
          refine w_K (D := (Aft W1 D)) (fun xX : (Int × Int) => ⟨[(1, .cv (.val (.str (bs word)))), (2, .cv (.val (.ptr (some (h.n + 0, 0))))), (6, .cv (.val (.sl (List.map eI r.1)))), (9, .cv (.val (.int .i64 xX.1))), (10, .cv (.val (.int .i64 xX.2))), (11, .cv (.val (.int .i64 i)))], h.on [some (.cells [.val (.sl (List.map eB g.Final)), .val (.sl (List.map (eL eEdge) g.Edges))])]⟩) (fun xX : (Int × Int) => scansionref17_Number.k2 i xX.1 xX.2) (fun xX s' hr ht => ?_) ?_
          · obtain ⟨n2, s1⟩ := xX
            dsimp only [scansionref17_Number.k2] at hr ht
            refine (w_nT ht ?_)
            refine A_region ?_
            exact (w_k ⟨(n2, s1, (IntKind.i64.wrap (i + (1 : Int)))), hr, (A_cut hwf)⟩)
          · refine w_block ?_
            refine w_seq ?_
            refine w_seq ?_
            obtain ⟨b, nF6, eF7, gF8, hr⟩ := hr.idx
            refine A_region ?_
            refine w_n ?_
            refine w_K (D := (Aft W1 D)) (fun xX : Int => ⟨[(1, .cv (.val (.str (bs word)))), (2, .cv (.val (.ptr (some (h.n + 0, 0))))), (6, .cv (.val (.sl (List.map eI r.1)))), (9, .cv (.val (.int .i64 xX))), (10, .cv (.val (.int .i64 s))), (11, .cv (.val (.int .i64 i)))], h.on [some (.cells [.val (.sl (List.map eB g.Final)), .val (.sl (List.map (eL eEdge) g.Edges))])]⟩) (fun xX : Int => scansionref17_Number.k3 g word r s i xX) (fun xX s' hr ht => ?_) ?_
            · obtain ⟨n3, rfl⟩ : ∃ z, z = xX := ⟨xX, rfl⟩
              dsimp only [scansionref17_Number.k3] at hr ht
              refine (w_nT ht ?_)
              refine w_seq ?_
              refine w_seq ?_
              refine A_region ?_
              refine w_n ?_
              refine w_K (D := (Aft W1 D)) (fun xX : Int => ⟨[(1, .cv (.val (.str (bs word)))), (2, .cv (.val (.ptr (some (h.n + 0, 0))))), (6, .cv (.val (.sl (List.map eI r.1)))), (9, .cv (.val (.int .i64 xX))), (10, .cv (.val (.int .i64 s))), (11, .cv (.val (.int .i64 i)))], h.on [some (.cells [.val (.sl (List.map eB g.Final)), .val (.sl (List.map (eL eEdge) g.Edges))])]⟩) (fun xX : Int => scansionref17_Number.k4 g word s i xX) (fun xX s' hr ht => ?_) ?_
              · obtain ⟨n4, rfl⟩ : ∃ z, z = xX := ⟨xX, rfl⟩
                dsimp only [scansionref17_Number.k4] at hr ht
                refine (w_nT ht ?_)
                refine w_drawn [0, 1, 2, 3, 4, 5, 6] (by rfl) ?_
                obtain ⟨c, nF9, eF10, gF11, hr⟩ := hr.idx
                refine p_run (l := [0, 1, 2, 3, 4]) (pend' := [4, 3, 2, 1, 0]) (by simp (disch := (apply Apart.mk; decide)) only [go_sem, Nat.reduceAdd, Nat.reduceLT, Nat.reduceMul, Nat.reduceLeDiff, Int.reduceToNat, Int.reduceLT, Int.reduceLE, nF9, eF10, gF11]; rfl) rfl ?_
                obtain ⟨r2, eF12, hr⟩ := hr.bind
                refine p_call (out := ?o_eF12) (hp := ?p_eF12) (pend' := []) rfl (by simp (disch := (apply Apart.mk; decide)) only [go_sem, Nat.reduceAdd, Nat.reduceLT, Nat.reduceMul, Nat.reduceLeDiff, Int.reduceToNat, Int.reduceLT, Int.reduceLE, Option.getD_some, nF9, eF10, gF11]) rfl (by simp (disch := (apply Apart.mk; decide)) only [go_sem, Nat.reduceAdd, Nat.reduceLT, Nat.reduceMul, Nat.reduceLeDiff, Int.reduceToNat, Int.reduceLT, Int.reduceLE, Option.getD_some, nF9, eF10, gF11]; rfl) (by simp (disch := (apply Apart.mk; decide)) only [go_sem, Nat.reduceAdd, Nat.reduceLT, Nat.reduceMul, Nat.reduceLeDiff, Int.reduceToNat, Int.reduceLT, Int.reduceLE, Option.getD_some, nF9, eF10, gF11]; rfl) (by simp (disch := (apply Apart.mk; decide)) only [go_sem, Nat.reduceAdd, Nat.reduceLT, Nat.reduceMul, Nat.reduceLeDiff, Int.reduceToNat, Int.reduceLT, Int.reduceLE, Option.getD_some, nF9, eF10, gF11]; rfl) (by rfl) ?c_eF12 ?d_eF12 ?_
                case c_eF12 => exact scansionref17_to_runs g s c eF12
                case d_eF12 => rfl
                refine p_op (pend' := []) rfl (by simp (disch := (apply Apart.mk; decide)) only [go_sem, Nat.reduceAdd, Nat.reduceLT, Nat.reduceMul, Nat.reduceLeDiff, Int.reduceToNat, Int.reduceLT, Int.reduceLE, nF9, eF10, gF11]) (by simp (disch := (apply Apart.mk; decide)) only [go_sem, Nat.reduceAdd, Nat.reduceLT, Nat.reduceMul, Nat.reduceLeDiff, Int.reduceToNat, Int.reduceLT, Int.reduceLE, nF9, eF10, gF11]; rfl) (by rfl) ?_
                refine p_end (by simp (disch := (apply Apart.mk; decide)) only [go_sem, Nat.reduceAdd, Nat.reduceLT, Nat.reduceMul, Nat.reduceLeDiff, Int.reduceToNat, Int.reduceLT, Int.reduceLE, nF9, eF10, gF11]) ?_
                exact (w_bn (w_k ⟨(n4, r2), hr, (A_cut hwf)⟩))
              · refine w_block ?_
                refine w_Loop (fun xX : (Int × Int) => ⟨[(1, .cv (.val (.str (bs word)))), (2, .cv (.val (.ptr (some (h.n + 0, 0))))), (6, .cv (.val (.sl (List.map eI r.1)))), (9, .cv (.val (.int .i64 xX.1))), (10, .cv (.val (.int .i64 s))), (11, .cv (.val (.int .i64 i))), (12, .cv (.val (.int .i64 xX.2)))], h.on [some (.cells [.val (.sl (List.map eB g.Final)), .val (.sl (List.map (eL eEdge) g.Edges))])]⟩) hr (A_cut hwf) (fun W2 xX hr => ?_)
                obtain ⟨n5, k⟩ := xX
                dsimp only [scansionref17_Number.b2] at hr
                refine w_seq ?_
                obtain ⟨v, vF23, hr⟩ := hr.bind
                refine w_joinR (sj := ⟨[(1, .cv (.val (.str (bs word)))), (2, .cv (.val (.ptr (some (h.n + 0, 0))))), (6, .cv (.val (.sl (List.map eI r.1)))), (9, .cv (.val (.int .i64 n5))), (10, .cv (.val (.int .i64 s))), (11, .cv (.val (.int .i64 i))), (12, .cv (.val (.int .i64 k))), (65, .cv (.val (.bool v)))], h.on [some (.cells [.val (.sl (List.map eB g.Final)), .val (.sl (List.map (eL eEdge) g.Edges))])]⟩) (w_drawn [0, 1, 2, 3, 4, 5, 6, 7, 8, 9, 10, 11, 12, 13, 14, 15, 16, 17, 18, 19, 20, 21, 22] (by rfl) ?_) ?_
                · have hr := Holds.intro (D := fun z => z = v) vF23 rfl
                  obtain ⟨xs, nF13, eF14, gF15, hr⟩ := hr.idx
                  refine p_run (l := [0, 1, 2, 3, 4, 5, 6, 7, 8]) (pend' := [8, 7, 6, 5, 4, 3, 2, 1, 0]) (by simp (disch := (apply Apart.mk; decide)) only [go_sem, Nat.reduceAdd, Nat.reduceLT, Nat.reduceMul, Nat.reduceLeDiff, Int.reduceToNat, Int.reduceLT, Int.reduceLE, nF13, eF14, gF15]; rfl) rfl ?_
                  rcases hr.ite with ⟨cF16, hr⟩ | ⟨cF16, hr⟩
                  · obtain ⟨x, nF17, eF18, gF19, hr⟩ := hr.idx
                    obtain ⟨c1, nF20, eF21, gF22, hr⟩ := hr.idx
                    refine p_run (l := [9, 10, 11, 12, 13, 14, 15, 16, 17, 18, 19, 20, 21, 22]) (pend' := [22, 21, 20, 19, 18, 17, 16, 15, 14, 13, 12, 11, 10, 9, 8, 7, 6, 5, 4, 3, 2, 1, 0]) (by simp (disch := (apply Apart.mk; decide)) only [go_sem, Nat.reduceAdd, Nat.reduceLT, Nat.reduceMul, Nat.reduceLeDiff, Int.reduceToNat, Int.reduceLT, Int.reduceLE, nF13, eF14, gF15, cF16, nF17, eF18, gF19, nF20, eF21, gF22]; rfl) rfl ?_
                    refine p_end (by simp (disch := (apply Apart.mk; decide)) only [go_sem, Nat.reduceAdd, Nat.reduceLT, Nat.reduceMul, Nat.reduceLeDiff, Int.reduceToNat, Int.reduceLT, Int.reduceLE, nF13, eF14, gF15, cF16, nF13, eF14, gF15, nF17, eF18, gF19, nF20, eF21, gF22]) ?_
                    obtain rfl : _ = v := hr
                    exact w_k (A_cut hwf)
                  · refine p_run (l := [9, 10, 11, 12, 13, 14, 15, 16, 17, 18, 19, 20, 21, 22]) (pend' := [22, 21, 20, 19, 18, 17, 16, 15, 14, 13, 12, 11, 10, 9, 8, 7, 6, 5, 4, 3, 2, 1, 0]) (by simp (disch := (apply Apart.mk; decide)) only [go_sem, Nat.reduceAdd, Nat.reduceLT, Nat.reduceMul, Nat.reduceLeDiff, Int.reduceToNat, Int.reduceLT, Int.reduceLE, nF13, eF14, gF15, cF16]; rfl) rfl ?_
                    refine p_end (by simp (disch := (apply Apart.mk; decide)) only [go_sem, Nat.reduceAdd, Nat.reduceLT, Nat.reduceMul, Nat.reduceLeDiff, Int.reduceToNat, Int.reduceLT, Int.reduceLE, nF13, eF14, gF15, cF16]) ?_
                    obtain rfl : _ = v := hr
                    exact w_k (A_cut hwf)
                refine A_condH hr (fun cF24 hr => ?_) (fun cF24 hr => ?_)
                · refine w_skip ?_
                  refine w_n ?_
                  refine w_seq ?_
                  refine w_block ?_
                  obtain ⟨xs1, nF25, eF26, gF27, hr⟩ := hr.idx
                  obtain ⟨x1, nF28, eF29, gF30, hr⟩ := hr.idx
                  obtain ⟨n6, nF31, eF32, gF33, hr⟩ := hr.idx
                  refine A_region ?_
                  refine (w_bn (w_n ?_))
                  refine A_region ?_
                  exact (w_k ⟨((IntKind.i64.wrap (n5 + n6)), (IntKind.i64.wrap (k + (1 : Int)))), hr, (A_cut hwf)⟩)
                · refine w_exit ?_
                  exact (w_te (w_te (w_bx (w_k ⟨n5, (hr).map, (A_cut hwf)⟩))))
            · refine A_condH hr (fun cF34 hr => ?_) (fun cF34 hr => ?_)
              · refine A_region ?_
                exact (w_k ⟨(IntKind.i64.wrap (n1 + (1 : Int))), hr, (A_cut hwf)⟩)
              · refine w_skip ?_
                exact (w_k ⟨n1, hr, (A_cut hwf)⟩)
        · refine w_exit ?_
          exact (w_te (w_te (w_bx (w_k ⟨n1, (hr).map, (A_cut hwf)⟩))))
end Go.Val

/- part GW61 -/
/- (*scansion/scansionref18.Array).Number runs as it is read off. -/
namespace Go.Val
set_option linter.unusedVariables false
set_option linter.unusedSimpArgs false
set_option maxRecDepth 20000
open Go.Proofs
theorem scansionref18_Array_Number_runs (a_ : Tscansionref18_Array) (word : List UInt8) (l0 : Nat) {h : Heap} (ha0 : h.at_ l0 = some (.cells [.val (.sl (List.map eB a_.G.Final)), .val (.sl (List.map (eL eEdge) a_.G.Edges)), .val (.int .i64 a_.Cells)])) {a : (Int × Bool)} (e : scansionref18_Array_Number a_ word = some a) :
    Runs CT 61 [.cv (.val (.ptr (some (l0, 0)))), .cv (.val (.sl (List.map eU word)))] h fun o h' => o = [.cv (.val (.int .i64 a.1)), .cv (.val (.bool a.2))] ∧ h' = h := by
  refine Runs.start Try.f61 _ Try.func61 rfl (by rw [Try.ntmps61]; simp) (by rfl) (by rfl) (fun hwf hu => ?_)
  have hl0 := (hwf _ _ ha0).1
  have kl0 := locF hl0
  obtain ⟨D, hD, hr⟩ : ∃ D : (Int × Bool) → Prop, (∀ z, D z → z = a) ∧ Holds (scansionref18_Array_Number a_ word) D := ⟨fun z => z = a, fun _ h => h, Holds.intro e rfl⟩
  dsimp only [scansionref18_Array_Number] at hr
  change wpCode _ _ _ _ _ ⟨[(0, .cv (.val (.ptr (some (l0, 0))))), (1, .cv (.val (.sl (List.map eU word))))], h.on []⟩
  refine w_seq ?_
  refine A_region ?_
  refine w_n ?_
  refine w_seq ?_
  refine w_drawn [0, 1, 2, 3, 4, 5, 6, 7, 8, 9, 10, 11] (by rfl) ?_
  refine p_run (l := [0, 1, 2, 3, 4, 5]) (pend' := [5, 4, 3, 2, 1, 0]) (by simp (disch := (apply Apart.mk; decide)) only [go_sem, Nat.reduceAdd, Nat.reduceLT, Nat.reduceMul, Nat.reduceLeDiff, Int.reduceToNat, Int.reduceLT, Int.reduceLE, ha0, on_atB hl0, lt_add hl0, lt_at hl0]; rfl) rfl ?_
  obtain ⟨r, eF1, hr⟩ := hr.bind
  refine p_call (out := ?o_eF1) (hp := ?p_eF1) (pend' := []) rfl (by simp (disch := (apply Apart.mk; decide)) only [go_sem, Nat.reduceAdd, Nat.reduceLT, Nat.reduceMul, Nat.reduceLeDiff, Int.reduceToNat, Int.reduceLT, Int.reduceLE, ha0, on_atB hl0, lt_add hl0, lt_at hl0, Option.getD_some]) rfl (by simp (disch := (apply Apart.mk; decide)) only [go_sem, Nat.reduceAdd, Nat.reduceLT, Nat.reduceMul, Nat.reduceLeDiff, Int.reduceToNat, Int.reduceLT, Int.reduceLE, ha0, on_atB hl0, lt_add hl0, lt_at hl0, Option.getD_some]; rfl) (by simp (disch := (apply Apart.mk; decide)) only [go_sem, Nat.reduceAdd, Nat.reduceLT, Nat.reduceMul, Nat.reduceLeDiff, Int.reduceToNat, Int.reduceLT, Int.reduceLE, ha0, on_atB hl0, lt_add hl0, lt_at hl0, Option.getD_some]; rfl) (by simp (disch := (apply Apart.mk; decide)) only [go_sem, Nat.reduceAdd, Nat.reduceLT, Nat.reduceMul, Nat.reduceLeDiff, Int.reduceToNat, Int.reduceLT, Int.reduceLE, ha0, on_atB hl0, lt_add hl0, lt_at hl0, Option.getD_some]; rfl) (by rfl) ?c_eF1 ?d_eF1 ?_
  case c_eF1 => exact scansionref17_Number_runs a_.G word eF1
  case d_eF1 => rfl
  refine p_run (l := [7, 8, 9]) (pend' := [9, 8, 7]) (by simp (disch := (apply Apart.mk; decide)) only [go_sem, Nat.reduceAdd, Nat.reduceLT, Nat.reduceMul, Nat.reduceLeDiff, Int.reduceToNat, Int.reduceLT, Int.reduceLE, ha0, on_atB hl0, lt_add hl0, lt_at hl0]; rfl) rfl ?_
  refine p_op (pend' := [9]) rfl (by simp (disch := (apply Apart.mk; decide)) only [go_sem, Nat.reduceAdd, Nat.reduceLT, Nat.reduceMul, Nat.reduceLeDiff, Int.reduceToNat, Int.reduceLT, Int.reduceLE, ha0, on_atB hl0, lt_add hl0, lt_at hl0]) (by simp (disch := (apply Apart.mk; decide)) only [go_sem, Nat.reduceAdd, Nat.reduceLT, Nat.reduceMul, Nat.reduceLeDiff, Int.reduceToNat, Int.reduceLT, Int.reduceLE, ha0, on_atB hl0, lt_add hl0, lt_at hl0]; rfl) (by rfl) ?_
  refine p_op (pend' := []) rfl (by simp (disch := (apply Apart.mk; decide)) only [go_sem, Nat.reduceAdd, Nat.reduceLT, Nat.reduceMul, Nat.reduceLeDiff, Int.reduceToNat, Int.reduceLT, Int.reduceLE, ha0, on_atB hl0, lt_add hl0, lt_at hl0]) (by simp (disch := (apply Apart.mk; decide)) only [go_sem, Nat.reduceAdd, Nat.reduceLT, Nat.reduceMul, Nat.reduceLeDiff, Int.reduceToNat, Int.reduceLT, Int.reduceLE, ha0, on_atB hl0, lt_add hl0, lt_at hl0]; rfl) (by rfl) ?_
  refine p_end (by simp (disch := (apply Apart.mk; decide)) only [go_sem, Nat.reduceAdd, Nat.reduceLT, Nat.reduceMul, Nat.reduceLeDiff, Int.reduceToNat, Int.reduceLT, Int.reduceLE, ha0, on_atB hl0, lt_add hl0, lt_at hl0]) ?_
  refine w_n ?_
  refine w_seq ?_
  refine A_region ?_
  refine w_n ?_
  refine w_ret ?_
  obtain rfl := hD _ hr
  exact (A_endR (A_cut (os' := []) (sl := [(4, .cv (.val (.int .i64 r.1))), (5, .cv (.val (.bool (r.2 == (0 : Int)))))]) hwf) ⟨rfl, on_nil hwf⟩)
end Go.Val

/- part GW39 -/
/- scansion/scansionref17.Word runs as it is read off. -/
namespace Go.Val
set_option linter.unusedVariables false
set_option linter.unusedSimpArgs false
set_option maxRecDepth 20000
open Go.Proofs
theorem scansionref17_Word_runs (g : TGraph) (n : Int) {h : Heap} {a : (Str × Int)} (e : scansionref17_Word g n = some a) :
    Runs CT 39 [.cv (.val (.agg [.sl (List.map eB g.Final), .sl (List.map (eL eEdge) g.Edges)])), .cv (.val (.int .i64 n))] h fun o h' => o = [.cv (.val (.str (bs a.1))), .cv (.val (.int .i64 a.2))] ∧ h' = h := by
  refine Runs.start Try.f39 _ Try.func39 rfl (by rw [Try.ntmps39]; simp) (by rfl) (by rfl) (fun hwf hu => ?_)
  obtain ⟨D, hD, hr⟩ : ∃ D : (Str × Int) → Prop, (∀ z, D z → z = a) ∧ Holds (scansionref17_Word g n) D := ⟨fun z => z = a, fun _ h => h, Holds.intro e rfl⟩
  dsimp only [scansionref17_Word] at hr
  change wpCode _ _ _ _ _ ⟨[(0, .cv (.val (.agg [.sl (List.map eB g.Final), .sl (List.map (eL eEdge) g.Edges)]))), (1, .cv (.val (.int .i64 n)))], h.on []⟩
  refine w_seq ?_
  refine A_region ?_
  refine w_n ?_
  refine w_seq ?_
  refine A_ops ?_
  refine A_upto 1 ?_
  obtain ⟨r, eF1, hr⟩ := hr.bind
  refine A_call (out := ?o_eF1) (hp := ?p_eF1) ?c_eF1 ?d_eF1 ?_
  case c_eF1 => exact scansionref17_Count_runs g eF1
  case d_eF1 => rfl
  refine A_ops_end ?_
  refine w_n ?_
  refine w_seq ?_
  refine w_seq ?_
  refine A_region ?_
  refine w_n ?_
  refine A_condH hr (fun cF2 hr => ?_) (fun cF2 hr => ?_)
  · refine w_seq ?_
    refine A_region ?_
    refine w_n ?_
    refine w_ret ?_
    obtain rfl := hD _ hr
    exact (w_tr (A_endR (A_cut (os' := []) (sl := [(4, .cv (.val (.str (bs ([] : Str))))), (5, .cv (.val (.int .i64 r.2)))]) hwf) ⟨rfl, on_nil hwf⟩))
  · refine w_skip ?_
    refine w_n ?_
    refine w_seq ?_
    refine A_region ?_
    refine w_n ?_
    refine w_seq ?_
    obtain ⟨v, vF7, hr⟩ := hr.bind
    refine w_joinR (sj := ⟨[(1, .cv (.val (.int .i64 n))), (2, .cv (.val (.ptr (some (h.n + 0, 0))))), (6, .cv (.val (.sl (List.map eI r.1)))), (8, .cv (.val (.int .i64 (IntKind.i64.wrap ((g.Final.length : Int) - (1 : Int)))))), (32, .cv (.val (.bool v)))], h.on [some (.cells [.val (.sl (List.map eB g.Final)), .val (.sl (List.map (eL eEdge) g.Edges))])]⟩) (A_ops ?_) ?_
    · have hr := Holds.intro (D := fun z => z = v) vF7 rfl
      refine A_upto 3 ?_
      rcases hr.ite with ⟨cF3, hr⟩ | ⟨cF3, hr⟩
      · refine A_ops_end ?_
        obtain rfl : _ = v := hr
        exact w_k (A_cut hwf)
      · obtain ⟨n1, nF4, eF5, gF6, hr⟩ := hr.idx
        refine A_ops_end ?_
        obtain rfl : _ = v := hr
        exact w_k (A_cut hwf)
    refine A_condH hr (fun cF8 hr => ?_) (fun cF8 hr => ?_)
    · refine w_seq ?_
      refine A_region ?_
      refine w_n ?_
      refine w_ret ?_
      obtain rfl := hD _ hr
      exact (w_tr (A_endR (A_cut (os' := []) (sl := [(4, .cv (.val (.str (bs ([] : Str))))), (5, .cv (.val (.int .i64 (4 : Int))))]) hwf) ⟨rfl, on_nil hwf⟩))
    · refine w_skip ?_
      refine w_n ?_
      refine w_seq ?_
      refine A_region ?_
      refine w_n ?_
      refine w_block ?_
      refine w_Loop (fun xX : (Int × Int × Str) => ⟨[(1, .cv (.val (.int .i64 xX.1))), (2, .cv (.val (.ptr (some (h.n + 0, 0))))), (6, .cv (.val (.sl (List.map eI r.1)))), (8, .cv (.val (.int .i64 xX.2.1))), (9, .cv (.val (.str (bs xX.2.2))))], h.on [some (.cells [.val (.sl (List.map eB g.Final)), .val (.sl (List.map (eL eEdge) g.Edges))])]⟩) hr (A_cut hwf) (fun W1 xX hr => ?_)
      obtain ⟨n2, s, word⟩ := xX
      dsimp only [scansionref17_Word.b1] at hr
      refine w_K (D := (Aft W1 D)) (fun xX : (Int × Int × Str) => ⟨[(1, .cv (.val (.int .i64 xX.1))), (2, .cv (.val (.ptr (some (h.n + 0, 0))))), (6, .cv (.val (.sl (List.map eI r.1)))), (8, .cv (.val (.int .i64 xX.2.1))), (9, .cv (.val (.str (bs xX.2.2))))], h.on [some (.cells [.val (.sl (List.map eB g.Final)), .val (.sl (List.map (eL eEdge) g.Edges))])]⟩) (fun xX : (Int × Int × Str) => scansionref17_Word.k1 xX.1 xX.2.1 xX.2.2) (fun xX s' hr ht => ?_) ?_
      · obtain ⟨n3, s1, word1⟩ := xX
        dsimp only [scansionref17_Word.k1] at hr ht
        exact (w_k ⟨(n3, s1, word1), hr, (To.trans ht (A_cut hwf))⟩)
      · refine w_block ?_
        refine w_seq ?_
        refine w_seq ?_
        obtain ⟨b, nF9, eF10, gF11, hr⟩ := hr.idx
        refine A_region ?_
        refine w_n ?_
        refine w_K (D := (Aft W1 D)) (fun xX : Int => ⟨[(1, .cv (.val (.int .i64 xX))), (2, .cv (.val (.ptr (some (h.n + 0, 0))))), (6, .cv (.val (.sl (List.map eI r.1)))), (8, .cv (.val (.int .i64 s))), (9, .cv (.val (.str (bs word))))], h.on [some (.cells [.val (.sl (List.map eB g.Final)), .val (.sl (List.map (eL eEdge) g.Edges))])]⟩) (fun xX : Int => scansionref17_Word.k2 g r s word xX) (fun xX s' hr ht => ?_) ?_
        · obtain ⟨n4, rfl⟩ : ∃ z, z = xX := ⟨xX, rfl⟩
          dsimp only [scansionref17_Word.k2] at hr ht
          refine (w_nT ht ?_)
          refine w_seq ?_
          refine A_region ?_
          refine w_n ?_
          refine w_seq ?_
          refine w_K (D := (Aft W1 D)) (fun xX : (Int × Int) => ⟨[(1, .cv (.val (.int .i64 xX.1))), (2, .cv (.val (.ptr (some (h.n + 0, 0))))), (6, .cv (.val (.sl (List.map eI r.1)))), (8, .cv (.val (.int .i64 s))), (9, .cv (.val (.str (bs word)))), (10, .cv (.val (.int .i64 xX.2)))], h.on [some (.cells [.val (.sl (List.map eB g.Final)), .val (.sl (List.map (eL eEdge) g.Edges))])]⟩) (fun xX : (Int × Int) => scansionref17_Word.k3 g s word xX.1 xX.2) (fun xX s' hr ht => ?_) ?_
          · obtain ⟨n5, k⟩ := xX
            dsimp only [scansionref17_Word.k3] at hr ht
            refine (w_nT ht ?_)
            refine w_seq ?_
            obtain ⟨xs, nF12, eF13, gF14, hr⟩ := hr.idx
            obtain ⟨x, nF15, eF16, gF17, hr⟩ := hr.idx
            obtain ⟨nF18, hr⟩ := hr.roomS
            refine A_region ?_
            refine w_n ?_
            refine A_region ?_
            exact (w_bn (w_k ⟨(n5, x.To, (word ++ ([x.Label]))), hr, (A_cut hwf)⟩))
          · refine w_block ?_
            refine w_Loop (fun xX : (Int × Int) => ⟨[(1, .cv (.val (.int .i64 xX.1))), (2, .cv (.val (.ptr (some (h.n + 0, 0))))), (6, .cv (.val (.sl (List.map eI r.1)))), (8, .cv (.val (.int .i64 s))), (9, .cv (.val (.str (bs word)))), (10, .cv (.val (.int .i64 xX.2)))], h.on [some (.cells [.val (.sl (List.map eB g.Final)), .val (.sl (List.map (eL eEdge) g.Edges))])]⟩) hr (A_cut hwf) (fun W2 xX hr => ?_)
            obtain ⟨n6, k1⟩ := xX
            dsimp only [scansionref17_Word.b2] at hr
            refine w_seq ?_
            refine w_seq ?_
            obtain ⟨xs1, nF19, eF20, gF21, hr⟩ := hr.idx
            obtain ⟨x1, nF22, eF23, gF24, hr⟩ := hr.idx
            obtain ⟨n7, nF25, eF26, gF27, hr⟩ := hr.idx
            refine A_region ?_
            refine w_n ?_
            refine A_condH hr (fun cF28 hr => ?_) (fun cF28 hr => ?_)
            · refine w_skip ?_
              refine w_n ?_
              refine w_block ?_
              refine w_seq ?_
              refine A_region ?_
              refine w_n ?_
              refine A_region ?_
              exact (w_bn (w_k ⟨((IntKind.i64.wrap (n6 - n7)), (IntKind.i64.wrap (k1 + (1 : Int)))), hr, (A_cut hwf)⟩))
            · refine w_exit ?_
              exact (w_te (w_te (w_bx (w_k ⟨(n6, k1), (hr).map, (A_cut hwf)⟩))))
        · refine A_condH hr (fun cF29 hr => ?_) (fun cF29 hr => ?_)
          · refine w_seq ?_
            refine w_seq ?_
            refine A_region ?_
            refine w_n ?_
            refine A_condH hr (fun cF30 hr => ?_) (fun cF30 hr => ?_)
            · refine w_seq ?_
              refine A_region ?_
              refine w_n ?_
              refine w_ret ?_
              obtain rfl := hD _ hr
              exact (w_tr (w_tr (w_tr (w_br (w_tr (w_tr (w_br (A_endR (A_cut (os' := []) (sl := [(4, .cv (.val (.str (bs word)))), (5, .cv (.val (.int .i64 (0 : Int))))]) hwf) ⟨rfl, on_nil hwf⟩))))))))
            · refine w_skip ?_
              refine w_n ?_
              refine A_region ?_
              exact (w_k ⟨(IntKind.i64.wrap (n2 - (1 : Int))), hr, (A_cut hwf)⟩)
          · refine w_skip ?_
            exact (w_k ⟨n2, hr, (A_cut hwf)⟩)
end Go.Val

/- part GW63 -/
/- (*scansion/scansionref18.Array).Word runs as it is read off. -/
namespace Go.Val
set_option linter.unusedVariables false
set_option linter.unusedSimpArgs false
set_option maxRecDepth 20000
open Go.Proofs
theorem scansionref18_Array_Word_runs (a_ : Tscansionref18_Array) (n : Int) (l0 : Nat) {h : Heap} (ha0 : h.at_ l0 = some (.cells [.val (.sl (List.map eB a_.G.Final)), .val (.sl (List.map (eL eEdge) a_.G.Edges)), .val (.int .i64 a_.Cells)])) {a : (Str × Bool)} (e : scansionref18_Array_Word a_ n = some a) :
    Runs CT 63 [.cv (.val (.ptr (some (l0, 0)))), .cv (.val (.int .i64 n))] h fun o h' => o = [.cv (.val (.str (bs a.1))), .cv (.val (.bool a.2))] ∧ h' = h := by
  refine Runs.start Try.f63 _ Try.func63 rfl (by rw [Try.ntmps63]; simp) (by rfl) (by rfl) (fun hwf hu => ?_)
  have hl0 := (hwf _ _ ha0).1
  have kl0 := locF hl0
  obtain ⟨D, hD, hr⟩ : ∃ D : (Str × Bool) → Prop, (∀ z, D z → z = a) ∧ Holds (scansionref18_Array_Word a_ n) D := ⟨fun z => z = a, fun _ h => h, Holds.intro e rfl⟩
  dsimp only [scansionref18_Array_Word] at hr
  change wpCode _ _ _ _ _ ⟨[(0, .cv (.val (.ptr (some (l0, 0))))), (1, .cv (.val (.int .i64 n)))], h.on []⟩
  refine w_seq ?_
  refine A_region ?_
  refine w_n ?_
  refine w_seq ?_
  refine A_ops ?_
  refine A_upto 5 ?_
  obtain ⟨r, eF1, hr⟩ := hr.bind
  refine A_call (out := ?o_eF1) (hp := ?p_eF1) ?c_eF1 ?d_eF1 ?_
  case c_eF1 => exact scansionref17_Word_runs a_.G n eF1
  case d_eF1 => rfl
  refine A_ops_end ?_
  refine w_n ?_
  refine w_seq ?_
  refine A_region ?_
  refine w_n ?_
  refine w_ret ?_
  obtain rfl := hD _ hr
  exact (A_endR (A_cut (os' := []) (sl := [(4, .cv (.val (.str (bs r.1)))), (5, .cv (.val (.bool (r.2 == (0 : Int)))))]) hwf) ⟨rfl, on_nil hwf⟩)
end Go.Val

/- part GW80 -/
/- scansion/scansionref14.Number runs as it is read off. -/
namespace Go.Val
set_option linter.unusedVariables false
set_option linter.unusedSimpArgs false
set_option maxRecDepth 20000
open Go.Proofs
theorem scansionref14_Number_runs (n : Int) {h : Heap} {a : List UInt8} (e : scansionref14_Number n = some a) :
    Runs CT 80 [.cv (.val (.int .i64 n))] h fun o h' => o = [.cv (.row 5 (List.map eU a))] ∧ h' = h := by
  refine Runs.start Try.f80 _ Try.func80 rfl (by rw [Try.ntmps80]; simp) (by rfl) (by rfl) (fun hwf hu => ?_)
  obtain ⟨D, hD, hr⟩ : ∃ D : List UInt8 → Prop, (∀ z, D z → z = a) ∧ Holds (scansionref14_Number n) D := ⟨fun z => z = a, fun _ h => h, Holds.intro e rfl⟩
  dsimp only [scansionref14_Number] at hr
  change wpCode _ _ _ _ _ ⟨[(0, .cv (.val (.int .i64 n)))], h.on []⟩
  refine w_seq ?_
  refine A_region ?_
  refine w_n ?_
  refine w_seq ?_
  refine A_region ?_
  refine w_n ?_
  refine w_seq ?_
  refine A_region ?_
  refine w_n ?_
  refine w_seq ?_
  refine w_K (D := D) (fun xX : (Int × List UInt8) => ⟨[(0, .cv (.val (.int .i64 xX.1))), (3, .cv (.row 5 (List.map eU xX.2)))], h.on []⟩) (fun xX : (Int × List UInt8) => scansionref14_Number.k1 xX.1 xX.2) (fun xX s' hr ht => ?_) ?_
  · obtain ⟨n1, out⟩ := xX
    dsimp only [scansionref14_Number.k1] at hr ht
    refine (w_nT ht ?_)
    refine w_seq ?_
    obtain ⟨nF1, hr⟩ := hr.room
    refine A_region ?_
    refine w_n ?_
    refine w_ret ?_
    obtain rfl := hD _ hr
    exact (A_endR (A_cut (os' := []) (sl := [(2, .cv (.row 5 (List.map eU (out ++ ([(u8 (IntKind.u8.wrap n1))])))))]) hwf) ⟨rfl, on_nil hwf⟩)
  · refine w_block ?_
    refine w_Loop (fun xX : (Int × List UInt8) => ⟨[(0, .cv (.val (.int .i64 xX.1))), (3, .cv (.row 5 (List.map eU xX.2)))], h.on []⟩) hr (A_cut hwf) (fun W1 xX hr => ?_)
    obtain ⟨n2, out1⟩ := xX
    dsimp only [scansionref14_Number.b1] at hr
    refine w_seq ?_
    refine w_seq ?_
    refine A_region ?_
    refine w_n ?_
    refine A_condH hr (fun cF2 hr => ?_) (fun cF2 hr => ?_)
    · refine w_skip ?_
      refine w_n ?_
      refine w_block ?_
      refine w_seq ?_
      obtain ⟨nF3, hr⟩ := hr.room
      refine w_region rfl (by simp (disch := (apply Apart.mk; decide)) only [go_sem, Nat.reduceAdd, Nat.reduceLT, Nat.reduceMul, Nat.reduceLeDiff, Int.reduceToNat, Int.reduceLT, Int.reduceLE, (eq_false (by decide : ¬ ((128 : Int) = 0))), nF3, cF2]; rfl) ?_
      refine w_n ?_
      refine w_region rfl (by simp (disch := (apply Apart.mk; decide)) only [go_sem, Nat.reduceAdd, Nat.reduceLT, Nat.reduceMul, Nat.reduceLeDiff, Int.reduceToNat, Int.reduceLT, Int.reduceLE, (eq_false (by decide : ¬ ((128 : Int) = 0))), cF2]; rfl) ?_
      exact (w_bn (w_k ⟨((IntKind.i64.wrap (Int.tdiv n2 (128 : Int))), (out1 ++ ([(u8 (IntKind.u8.wrap (IntKind.i64.wrap ((128 : Int) + (Int.tmod n2 (128 : Int))))))]))), hr, (A_cut hwf)⟩))
    · refine w_exit ?_
      exact (w_te (w_te (w_bx (w_k ⟨(n2, out1), (hr).map, (A_cut hwf)⟩))))
end Go.Val

/- part GW60 -/
/- (*scansion/scansionref18.Array).Save runs as it is read off. -/
namespace Go.Val
set_option linter.unusedVariables false
set_option linter.unusedSimpArgs false
set_option maxRecDepth 20000
open Go.Proofs
theorem scansionref18_Array_Save_runs (a_ : Tscansionref18_Array) (l0 : Nat) {h : Heap} (ha0 : h.at_ l0 = some (.cells [.val (.sl (List.map eB a_.G.Final)), .val (.sl (List.map (eL eEdge) a_.G.Edges)), .val (.int .i64 a_.Cells)])) {a : List UInt8} (e : scansionref18_Array_Save a_ = some a) :
    Runs CT 60 [.cv (.val (.ptr (some (l0, 0))))] h fun o h' => o = [.cv (.val (.sl (List.map eU a)))] ∧ h' = h := by
  refine Runs.start Try.f60 _ Try.func60 rfl (by rw [Try.ntmps60]; simp) (by rfl) (by rfl) (fun hwf hu => ?_)
  have hl0 := (hwf _ _ ha0).1
  have kl0 := locF hl0
  obtain ⟨D, hD, hr⟩ : ∃ D : List UInt8 → Prop, (∀ z, D z → z = a) ∧ Holds (scansionref18_Array_Save a_) D := ⟨fun z => z = a, fun _ h => h, Holds.intro e rfl⟩
  dsimp only [scansionref18_Array_Save] at hr
  change wpCode _ _ _ _ _ ⟨[(0, .cv (.val (.ptr (some (l0, 0)))))], h.on []⟩
  refine w_seq ?_
  refine A_region ?_
  refine w_n ?_
  refine w_seq ?_
  refine A_ops ?_
  refine A_upto 6 ?_
  obtain ⟨r, eF1, hr⟩ := hr.bind
  refine A_call (out := ?o_eF1) (hp := ?p_eF1) ?c_eF1 ?d_eF1 ?_
  case c_eF1 => exact scansionref14_Number_runs (a_.G.Final.length : Int) eF1
  case d_eF1 => rfl
  refine A_ops_end ?_
  refine w_n ?_
  refine w_seq ?_
  refine w_seq ?_
  refine A_region ?_
  refine w_n ?_
  refine w_K (D := D) (fun xX : List UInt8 => ⟨[(3, .cv (.row 5 (List.map eU xX)))], h.on []⟩) (fun xX : List UInt8 => scansionref18_Array_Save.k1 xX) (fun xX s' hr ht => ?_) ?_
  · obtain ⟨out, rfl⟩ : ∃ z, z = xX := ⟨xX, rfl⟩
    dsimp only [scansionref18_Array_Save.k1] at hr ht
    refine (w_nT ht ?_)
    refine w_seq ?_
    refine A_region ?_
    refine w_n ?_
    refine w_ret ?_
    obtain rfl := hD _ hr
    exact (A_endR (.fix _ _ (.slot 2) 5 _ (by simp (disch := (apply Apart.mk; decide)) only [go_sem, Nat.reduceAdd, Nat.reduceLT, Nat.reduceMul, Nat.reduceLeDiff, Int.reduceToNat, Int.reduceLT, Int.reduceLE, ha0, on_atB hl0, lt_add hl0, lt_at hl0]; rfl) (A_cut (os' := []) (sl := [(2, .cv (.val (.sl (List.map eU out))))]) hwf)) ⟨rfl, on_nil hwf⟩)
  · refine w_block ?_
    refine w_Loop (fun xX : (List UInt8 × Int) => ⟨[(0, .cv (.val (.ptr (some (l0, 0))))), (3, .cv (.row 5 (List.map eU xX.1))), (4, .cv (.val (.int .i64 xX.2)))], h.on []⟩) hr (A_cut hwf) (fun W1 xX hr => ?_)
    obtain ⟨out1, s⟩ := xX
    dsimp only [scansionref18_Array_Save.b1] at hr
    refine w_seq ?_
    refine w_seq ?_
    refine A_region ?_
    refine w_n ?_
    refine A_condH hr (fun cF2 hr => ?_) (fun cF2 hr => ?_)
    · refine w_skip ?_
      refine w_n ?_
      refine w_seq ?_
      refine w_K (D := (Aft W1 D)) (fun xX : List UInt8 => ⟨[(0, .cv (.val (.ptr (some (l0, 0))))), (3, .cv (.row 5 (List.map eU xX))), (4, .cv (.val (.int .i64 s)))], h.on []⟩) (fun xX : List UInt8 => scansionref18_Array_Save.k2 s xX) (fun xX s' hr ht => ?_) ?_
      · obtain ⟨out2, rfl⟩ : ∃ z, z = xX := ⟨xX, rfl⟩
        dsimp only [scansionref18_Array_Save.k2] at hr ht
        refine (w_nT ht ?_)
        refine A_region ?_
        exact (w_k ⟨(out2, (IntKind.i64.wrap (s + (1 : Int)))), hr, (A_cut hwf)⟩)
      · refine w_block ?_
        refine w_seq ?_
        refine A_region ?_
        refine w_n ?_
        refine w_seq ?_
        refine w_seq ?_
        obtain ⟨b, nF3, eF4, gF5, hr⟩ := hr.idx
        refine A_region ?_
        refine w_n ?_
        refine w_K (D := (Aft W1 D)) (fun xX : UInt8 => ⟨[(0, .cv (.val (.ptr (some (l0, 0))))), (3, .cv (.row 5 (List.map eU out1))), (4, .cv (.val (.int .i64 s))), (5, .cv (.val (.int .u8 (xX.toNat : Int))))], h.on []⟩) (fun xX : UInt8 => scansionref18_Array_Save.k3 a_ out1 s xX) (fun xX s' hr ht => ?_) ?_
        · obtain ⟨final, rfl⟩ : ∃ z, z = xX := ⟨xX, rfl⟩
          dsimp only [scansionref18_Array_Save.k3] at hr ht
          refine (w_nT ht ?_)
          refine w_seq ?_
          obtain ⟨nF6, hr⟩ := hr.room
          refine A_region ?_
          refine w_n ?_
          refine w_seq ?_
          refine A_ops ?_
          obtain ⟨xs, nF7, eF8, gF9, hr⟩ := hr.idx
          refine A_upto 10 ?_
          obtain ⟨r1, eF10, hr⟩ := hr.bind
          refine A_call (out := ?o_eF10) (hp := ?p_eF10) ?c_eF10 ?d_eF10 ?_
          case c_eF10 => exact scansionref14_Number_runs (xs.length : Int) eF10
          case d_eF10 => rfl
          obtain ⟨nF11, hr⟩ := hr.room
          refine A_ops_end ?_
          refine w_n ?_
          refine w_seq ?_
          refine A_region ?_
          refine w_n ?_
          refine w_block ?_
          refine w_Loop (fun xX : (List UInt8 × Int) => ⟨[(0, .cv (.val (.ptr (some (l0, 0))))), (3, .cv (.row 5 (List.map eU xX.1))), (4, .cv (.val (.int .i64 s))), (6, .cv (.val (.int .i64 xX.2)))], h.on []⟩) hr (A_cut hwf) (fun W2 xX hr => ?_)
          obtain ⟨out3, k⟩ := xX
          dsimp only [scansionref18_Array_Save.b2] at hr
          refine w_seq ?_
          refine w_seq ?_
          refine A_region ?_
          refine w_n ?_
          refine A_condH hr (fun cF12 hr => ?_) (fun cF12 hr => ?_)
          · refine w_skip ?_
            refine w_n ?_
            refine w_seq ?_
            refine w_block ?_
            refine w_seq ?_
            obtain ⟨x, nF13, eF14, gF15, hr⟩ := hr.idx
            obtain ⟨nF16, hr⟩ := hr.room
            refine A_region ?_
            refine w_n ?_
            refine A_ops ?_
            refine A_upto 13 ?_
            obtain ⟨r2, eF17, hr⟩ := hr.bind
            refine A_call (out := ?o_eF17) (hp := ?p_eF17) ?c_eF17 ?d_eF17 ?_
            case c_eF17 => exact scansionref14_Number_runs x.To eF17
            case d_eF17 => rfl
            obtain ⟨nF18, hr⟩ := hr.room
            refine A_ops_end ?_
            refine (w_bn (w_n ?_))
            refine A_region ?_
            exact (w_k ⟨(((out3 ++ ([x.Label])) ++ r2), (IntKind.i64.wrap (k + (1 : Int)))), hr, (A_cut hwf)⟩)
          · refine w_exit ?_
            exact (w_te (w_te (w_bx (w_bn (w_k ⟨out3, (hr).map, (A_cut hwf)⟩)))))
        · refine A_condH hr (fun cF19 hr => ?_) (fun cF19 hr => ?_)
          · refine A_region ?_
            exact (w_k ⟨(u8 (1 : Int)), hr, (A_cut hwf)⟩)
          · refine w_skip ?_
            exact (w_k ⟨(u8 (0 : Int)), hr, (A_cut hwf)⟩)
    · refine w_exit ?_
      exact (w_te (w_te (w_bx (w_k ⟨out1, (hr).map, (A_cut hwf)⟩))))
end Go.Val

/- part GW43 -/
/- scansion/scansionlaw18.alike runs as it is read off. -/
namespace Go.Val
set_option linter.unusedVariables false
set_option linter.unusedSimpArgs false
set_option maxRecDepth 20000
open Go.Proofs
theorem scansionlaw18_alike_runs (a_ : Tdarray_Array) (w : Tscansionref18_Array) (b : List UInt8) (l0 : Nat) (l1 : Nat) {h : Heap} (ha0 : h.at_ l0 = some (.cells [.val (.sl (List.map eB a_.graph.Final)), .val (.sl (List.map (eL eEdge) a_.graph.Edges)), .row 3 (List.map eI a_.base), .row 91 (List.map edarray_cell a_.cells), .val (.sl (List.map eI a_.count))])) (ha1 : h.at_ l1 = some (.cells [.val (.sl (List.map eB w.G.Final)), .val (.sl (List.map (eL eEdge) w.G.Edges)), .val (.int .i64 w.Cells)])) (hn0_1 : l0 ≠ l1) {a : Bool} (e : scansionlaw18_alike a_ w b = some a) :
    Runs CT 43 [.cv (.val (.ptr (some (l0, 0)))), .cv (.val (.ptr (some (l1, 0)))), .cv (.val (.sl (List.map eU b)))] h fun o h' => o = [.cv (.val (.bool a))] ∧ h' = h := by
  refine Runs.start Try.f43 _ Try.func43 rfl (by rw [Try.ntmps43]; simp) (by rfl) (by rfl) (fun hwf hu => ?_)
  have hl0 := (hwf _ _ ha0).1
  have kl0 := locF hl0
  have hl1 := (hwf _ _ ha1).1
  have kl1 := locF hl1
  obtain ⟨D, hD, hr⟩ : ∃ D : Bool → Prop, (∀ z, D z → z = a) ∧ Holds (scansionlaw18_alike a_ w b) D := ⟨fun z => z = a, fun _ h => h, Holds.intro e rfl⟩
  dsimp only [scansionlaw18_alike] at hr
  change wpCode _ _ _ _ _ ⟨[(0, .cv (.val (.ptr (some (l0, 0))))), (1, .cv (.val (.ptr (some (l1, 0))))), (2, .cv (.val (.sl (List.map eU b))))], h.on []⟩
  refine w_seq ?_
  refine A_region ?_
  refine w_n ?_
  refine w_seq ?_
  refine A_ops ?_
  refine A_upto 2 ?_
  obtain ⟨r, eF1, hr⟩ := hr.bind
  refine A_call (out := ?o_eF1) (hp := ?p_eF1) ?c_eF1 ?d_eF1 ?_
  case c_eF1 => (refine darray_Array_Prefixes_runs a_ b (l0) ?_ eF1; (simp (disch := (apply Apart.mk; decide)) only [go_sem, Nat.reduceAdd, Nat.reduceLT, Nat.reduceMul, Nat.reduceLeDiff, Int.reduceToNat, Int.reduceLT, Int.reduceLE, ha0, on_atB hl0, lt_add hl0, lt_at hl0, ha1, on_atB hl1, lt_add hl1, lt_at hl1]))
  case d_eF1 => rfl
  refine A_upto 2 ?_
  obtain ⟨r1, eF2, hr⟩ := hr.bind
  refine A_call (out := ?o_eF2) (hp := ?p_eF2) ?c_eF2 ?d_eF2 ?_
  case c_eF2 => (refine scansionref18_Array_Prefixes_runs w b (l1) ?_ eF2; (simp (disch := (apply Apart.mk; decide)) only [go_sem, Nat.reduceAdd, Nat.reduceLT, Nat.reduceMul, Nat.reduceLeDiff, Int.reduceToNat, Int.reduceLT, Int.reduceLE, ha0, on_atB hl0, lt_add hl0, lt_at hl0, ha1, on_atB hl1, lt_add hl1, lt_at hl1]))
  case d_eF2 => rfl
  obtain ⟨r2, eF3, hr⟩ := hr.bind
  refine A_call (out := ?o_eF3) (hp := ?p_eF3) ?c_eF3 ?d_eF3 ?_
  case c_eF3 => exact scansionref01_SameInts_runs r r1 eF3
  case d_eF3 => rfl
  refine A_ops_end ?_
  refine w_n ?_
  obtain ⟨rest_, vF11, hr⟩ := hr.bind
  refine w_joinR (sj := ⟨[(0, .cv (.val (.ptr (some (l0, 0))))), (1, .cv (.val (.ptr (some (l1, 0))))), (2, .cv (.val (.sl (List.map eU b)))), (7, .cv (.val (.bool r2))), (8, .cv (.val (.bool rest_)))], h.on []⟩) (w_drawn [0, 2, 1, 3, 4, 5, 6, 8, 9, 10, 11, 7, 12, 13, 14, 15, 18, 16, 17, 19, 20, 21, 22, 23] (by rfl) ?_) ?_
  · have hr := Holds.intro (D := fun z => z = rest_) vF11 rfl
    refine p_run (l := [0, 2]) (pend' := [2, 0]) (by simp (disch := (apply Apart.mk; decide)) only [go_sem, Nat.reduceAdd, Nat.reduceLT, Nat.reduceMul, Nat.reduceLeDiff, Int.reduceToNat, Int.reduceLT, Int.reduceLE, ha0, on_atB hl0, lt_add hl0, lt_at hl0, ha1, on_atB hl1, lt_add hl1, lt_at hl1]; rfl) rfl ?_
    obtain ⟨r3, eF4, hr⟩ := hr.bind
    refine p_call (out := ?o_eF4) (hp := ?p_eF4) (pend' := [2]) rfl (by simp (disch := (apply Apart.mk; decide)) only [go_sem, Nat.reduceAdd, Nat.reduceLT, Nat.reduceMul, Nat.reduceLeDiff, Int.reduceToNat, Int.reduceLT, Int.reduceLE, ha0, on_atB hl0, lt_add hl0, lt_at hl0, ha1, on_atB hl1, lt_add hl1, lt_at hl1, Option.getD_some]) rfl (by simp (disch := (apply Apart.mk; decide)) only [go_sem, Nat.reduceAdd, Nat.reduceLT, Nat.reduceMul, Nat.reduceLeDiff, Int.reduceToNat, Int.reduceLT, Int.reduceLE, ha0, on_atB hl0, lt_add hl0, lt_at hl0, ha1, on_atB hl1, lt_add hl1, lt_at hl1, Option.getD_some]; rfl) (by simp (disch := (apply Apart.mk; decide)) only [go_sem, Nat.reduceAdd, Nat.reduceLT, Nat.reduceMul, Nat.reduceLeDiff, Int.reduceToNat, Int.reduceLT, Int.reduceLE, ha0, on_atB hl0, lt_add hl0, lt_at hl0, ha1, on_atB hl1, lt_add hl1, lt_at hl1, Option.getD_some]; rfl) (by simp (disch := (apply Apart.mk; decide)) only [go_sem, Nat.reduceAdd, Nat.reduceLT, Nat.reduceMul, Nat.reduceLeDiff, Int.reduceToNat, Int.reduceLT, Int.reduceLE, ha0, on_atB hl0, lt_add hl0, lt_at hl0, ha1, on_atB hl1, lt_add hl1, lt_at hl1, Option.getD_some]; rfl) (by rfl) ?c_eF4 ?d_eF4 ?_
    case c_eF4 => (refine darray_Array_Words_runs a_ (l0) ?_ eF4; (simp (disch := (apply Apart.mk; decide)) only [go_sem, Nat.reduceAdd, Nat.reduceLT, Nat.reduceMul, Nat.reduceLeDiff, Int.reduceToNat, Int.reduceLT, Int.reduceLE, ha0, on_atB hl0, lt_add hl0, lt_at hl0, ha1, on_atB hl1, lt_add hl1, lt_at hl1]))
    case d_eF4 => rfl
    obtain ⟨r4, eF5, hr⟩ := hr.bind
    refine p_call (out := ?o_eF5) (hp := ?p_eF5) (pend' := []) rfl (by simp (disch := (apply Apart.mk; decide)) only [go_sem, Nat.reduceAdd, Nat.reduceLT, Nat.reduceMul, Nat.reduceLeDiff, Int.reduceToNat, Int.reduceLT, Int.reduceLE, ha0, on_atB hl0, lt_add hl0, lt_at hl0, ha1, on_atB hl1, lt_add hl1, lt_at hl1, Option.getD_some]) rfl (by simp (disch := (apply Apart.mk; decide)) only [go_sem, Nat.reduceAdd, Nat.reduceLT, Nat.reduceMul, Nat.reduceLeDiff, Int.reduceToNat, Int.reduceLT, Int.reduceLE, ha0, on_atB hl0, lt_add hl0, lt_at hl0, ha1, on_atB hl1, lt_add hl1, lt_at hl1, Option.getD_some]; rfl) (by simp (disch := (apply Apart.mk; decide)) only [go_sem, Nat.reduceAdd, Nat.reduceLT, Nat.reduceMul, Nat.reduceLeDiff, Int.reduceToNat, Int.reduceLT, Int.reduceLE, ha0, on_atB hl0, lt_add hl0, lt_at hl0, ha1, on_atB hl1, lt_add hl1, lt_at hl1, Option.getD_some]; rfl) (by simp (disch := (apply Apart.mk; decide)) only [go_sem, Nat.reduceAdd, Nat.reduceLT, Nat.reduceMul, Nat.reduceLeDiff, Int.reduceToNat, Int.reduceLT, Int.reduceLE, ha0, on_atB hl0, lt_add hl0, lt_at hl0, ha1, on_atB hl1, lt_add hl1, lt_at hl1, Option.getD_some]; rfl) (by rfl) ?c_eF5 ?d_eF5 ?_
    case c_eF5 => (refine scansionref18_Array_Words_runs w (l1) ?_ eF5; (simp (disch := (apply Apart.mk; decide)) only [go_sem, Nat.reduceAdd, Nat.reduceLT, Nat.reduceMul, Nat.reduceLeDiff, Int.reduceToNat, Int.reduceLT, Int.reduceLE, ha0, on_atB hl0, lt_add hl0, lt_at hl0, ha1, on_atB hl1, lt_add hl1, lt_at hl1]))
    case d_eF5 => rfl
    refine p_run (l := [4, 5]) (pend' := [5, 4]) (by simp (disch := (apply Apart.mk; decide)) only [go_sem, Nat.reduceAdd, Nat.reduceLT, Nat.reduceMul, Nat.reduceLeDiff, Int.reduceToNat, Int.reduceLT, Int.reduceLE, ha0, on_atB hl0, lt_add hl0, lt_at hl0, ha1, on_atB hl1, lt_add hl1, lt_at hl1]; rfl) rfl ?_
    rcases hr.ite with ⟨cF6, hr⟩ | ⟨cF6, hr⟩
    · refine p_run (l := [6, 8, 9, 10, 11]) (pend' := [11, 10, 9, 8, 6, 5, 4]) (by simp (disch := (apply Apart.mk; decide)) only [go_sem, Nat.reduceAdd, Nat.reduceLT, Nat.reduceMul, Nat.reduceLeDiff, Int.reduceToNat, Int.reduceLT, Int.reduceLE, ha0, on_atB hl0, lt_add hl0, lt_at hl0, ha1, on_atB hl1, lt_add hl1, lt_at hl1, cF6]; rfl) rfl ?_
      obtain ⟨r5, eF7, hr⟩ := hr.bind
      refine p_call (out := ?o_eF7) (hp := ?p_eF7) (pend' := [11, 10, 9, 8]) rfl (by simp (disch := (apply Apart.mk; decide)) only [go_sem, Nat.reduceAdd, Nat.reduceLT, Nat.reduceMul, Nat.reduceLeDiff, Int.reduceToNat, Int.reduceLT, Int.reduceLE, ha0, on_atB hl0, lt_add hl0, lt_at hl0, ha1, on_atB hl1, lt_add hl1, lt_at hl1, Option.getD_some, cF6]) (by simp (disch := (apply Apart.mk; decide)) only [go_sem, Nat.reduceAdd, Nat.reduceLT, Nat.reduceMul, Nat.reduceLeDiff, Int.reduceToNat, Int.reduceLT, Int.reduceLE, ha0, on_atB hl0, lt_add hl0, lt_at hl0, ha1, on_atB hl1, lt_add hl1, lt_at hl1, Option.getD_some, cF6]) (by simp (disch := (apply Apart.mk; decide)) only [go_sem, Nat.reduceAdd, Nat.reduceLT, Nat.reduceMul, Nat.reduceLeDiff, Int.reduceToNat, Int.reduceLT, Int.reduceLE, ha0, on_atB hl0, lt_add hl0, lt_at hl0, ha1, on_atB hl1, lt_add hl1, lt_at hl1, Option.getD_some, cF6]; rfl) (by simp (disch := (apply Apart.mk; decide)) only [go_sem, Nat.reduceAdd, Nat.reduceLT, Nat.reduceMul, Nat.reduceLeDiff, Int.reduceToNat, Int.reduceLT, Int.reduceLE, ha0, on_atB hl0, lt_add hl0, lt_at hl0, ha1, on_atB hl1, lt_add hl1, lt_at hl1, Option.getD_some, cF6]; rfl) (by simp (disch := (apply Apart.mk; decide)) only [go_sem, Nat.reduceAdd, Nat.reduceLT, Nat.reduceMul, Nat.reduceLeDiff, Int.reduceToNat, Int.reduceLT, Int.reduceLE, ha0, on_atB hl0, lt_add hl0, lt_at hl0, ha1, on_atB hl1, lt_add hl1, lt_at hl1, Option.getD_some, cF6]; rfl) (by rfl) ?c_eF7 ?d_eF7 ?_
      case c_eF7 => (refine darray_Array_Cells_runs a_ (l0) ?_ eF7; (simp (disch := (apply Apart.mk; decide)) only [go_sem, Nat.reduceAdd, Nat.reduceLT, Nat.reduceMul, Nat.reduceLeDiff, Int.reduceToNat, Int.reduceLT, Int.reduceLE, ha0, on_atB hl0, lt_add hl0, lt_at hl0, ha1, on_atB hl1, lt_add hl1, lt_at hl1]))
      case d_eF7 => rfl
      refine p_run (l := [12, 13, 14]) (pend' := [14, 13, 12, 11, 10, 9, 8]) (by simp (disch := (apply Apart.mk; decide)) only [go_sem, Nat.reduceAdd, Nat.reduceLT, Nat.reduceMul, Nat.reduceLeDiff, Int.reduceToNat, Int.reduceLT, Int.reduceLE, ha0, on_atB hl0, lt_add hl0, lt_at hl0, ha1, on_atB hl1, lt_add hl1, lt_at hl1, cF6]; rfl) rfl ?_
      rcases hr.ite with ⟨cF8, hr⟩ | ⟨cF8, hr⟩
      · refine p_run (l := [15, 18]) (pend' := [18, 15, 14, 13, 12, 11, 10, 9, 8]) (by simp (disch := (apply Apart.mk; decide)) only [go_sem, Nat.reduceAdd, Nat.reduceLT, Nat.reduceMul, Nat.reduceLeDiff, Int.reduceToNat, Int.reduceLT, Int.reduceLE, ha0, on_atB hl0, lt_add hl0, lt_at hl0, ha1, on_atB hl1, lt_add hl1, lt_at hl1, cF6, cF8]; rfl) rfl ?_
        obtain ⟨r6, eF9, hr⟩ := hr.bind
        refine p_call (out := ?o_eF9) (hp := ?p_eF9) (pend' := [18]) rfl (by simp (disch := (apply Apart.mk; decide)) only [go_sem, Nat.reduceAdd, Nat.reduceLT, Nat.reduceMul, Nat.reduceLeDiff, Int.reduceToNat, Int.reduceLT, Int.reduceLE, ha0, on_atB hl0, lt_add hl0, lt_at hl0, ha1, on_atB hl1, lt_add hl1, lt_at hl1, Option.getD_some, cF6, cF8]) (by simp (disch := (apply Apart.mk; decide)) only [go_sem, Nat.reduceAdd, Nat.reduceLT, Nat.reduceMul, Nat.reduceLeDiff, Int.reduceToNat, Int.reduceLT, Int.reduceLE, ha0, on_atB hl0, lt_add hl0, lt_at hl0, ha1, on_atB hl1, lt_add hl1, lt_at hl1, Option.getD_some, cF6, cF8]) (by simp (disch := (apply Apart.mk; decide)) only [go_sem, Nat.reduceAdd, Nat.reduceLT, Nat.reduceMul, Nat.reduceLeDiff, Int.reduceToNat, Int.reduceLT, Int.reduceLE, ha0, on_atB hl0, lt_add hl0, lt_at hl0, ha1, on_atB hl1, lt_add hl1, lt_at hl1, Option.getD_some, cF6, cF8]; rfl) (by simp (disch := (apply Apart.mk; decide)) only [go_sem, Nat.reduceAdd, Nat.reduceLT, Nat.reduceMul, Nat.reduceLeDiff, Int.reduceToNat, Int.reduceLT, Int.reduceLE, ha0, on_atB hl0, lt_add hl0, lt_at hl0, ha1, on_atB hl1, lt_add hl1, lt_at hl1, Option.getD_some, cF6, cF8]; rfl) (by simp (disch := (apply Apart.mk; decide)) only [go_sem, Nat.reduceAdd, Nat.reduceLT, Nat.reduceMul, Nat.reduceLeDiff, Int.reduceToNat, Int.reduceLT, Int.reduceLE, ha0, on_atB hl0, lt_add hl0, lt_at hl0, ha1, on_atB hl1, lt_add hl1, lt_at hl1, Option.getD_some, cF6, cF8]; rfl) (by rfl) ?c_eF9 ?d_eF9 ?_
        case c_eF9 => (refine darray_Array_Save_runs a_ (l0) ?_ eF9; (simp (disch := (apply Apart.mk; decide)) only [go_sem, Nat.reduceAdd, Nat.reduceLT, Nat.reduceMul, Nat.reduceLeDiff, Int.reduceToNat, Int.reduceLT, Int.reduceLE, ha0, on_atB hl0, lt_add hl0, lt_at hl0, ha1, on_atB hl1, lt_add hl1, lt_at hl1]))
        case d_eF9 => rfl
        refine p_run (l := [17]) (pend' := [17, 18]) (by simp (disch := (apply Apart.mk; decide)) only [go_sem, Nat.reduceAdd, Nat.reduceLT, Nat.reduceMul, Nat.reduceLeDiff, Int.reduceToNat, Int.reduceLT, Int.reduceLE, ha0, on_atB hl0, lt_add hl0, lt_at hl0, ha1, on_atB hl1, lt_add hl1, lt_at hl1, cF6, cF8]; rfl) rfl ?_
        obtain ⟨r7, eF10, hr⟩ := hr.bind
        refine p_call (out := ?o_eF10) (hp := ?p_eF10) (pend' := [17]) rfl (by simp (disch := (apply Apart.mk; decide)) only [go_sem, Nat.reduceAdd, Nat.reduceLT, Nat.reduceMul, Nat.reduceLeDiff, Int.reduceToNat, Int.reduceLT, Int.reduceLE, ha0, on_atB hl0, lt_add hl0, lt_at hl0, ha1, on_atB hl1, lt_add hl1, lt_at hl1, Option.getD_some, cF6, cF8]) (by simp (disch := (apply Apart.mk; decide)) only [go_sem, Nat.reduceAdd, Nat.reduceLT, Nat.reduceMul, Nat.reduceLeDiff, Int.reduceToNat, Int.reduceLT, Int.reduceLE, ha0, on_atB hl0, lt_add hl0, lt_at hl0, ha1, on_atB hl1, lt_add hl1, lt_at hl1, Option.getD_some, cF6, cF8]) (by simp (disch := (apply Apart.mk; decide)) only [go_sem, Nat.reduceAdd, Nat.reduceLT, Nat.reduceMul, Nat.reduceLeDiff, Int.reduceToNat, Int.reduceLT, Int.reduceLE, ha0, on_atB hl0, lt_add hl0, lt_at hl0, ha1, on_atB hl1, lt_add hl1, lt_at hl1, Option.getD_some, cF6, cF8]; rfl) (by simp (disch := (apply Apart.mk; decide)) only [go_sem, Nat.reduceAdd, Nat.reduceLT, Nat.reduceMul, Nat.reduceLeDiff, Int.reduceToNat, Int.reduceLT, Int.reduceLE, ha0, on_atB hl0, lt_add hl0, lt_at hl0, ha1, on_atB hl1, lt_add hl1, lt_at hl1, Option.getD_some, cF6, cF8]; rfl) (by simp (disch := (apply Apart.mk; decide)) only [go_sem, Nat.reduceAdd, Nat.reduceLT, Nat.reduceMul, Nat.reduceLeDiff, Int.reduceToNat, Int.reduceLT, Int.reduceLE, ha0, on_atB hl0, lt_add hl0, lt_at hl0, ha1, on_atB hl1, lt_add hl1, lt_at hl1, Option.getD_some, cF6, cF8]; rfl) (by rfl) ?c_eF10 ?d_eF10 ?_
        case c_eF10 => (refine scansionref18_Array_Save_runs w (l1) ?_ eF10; (simp (disch := (apply Apart.mk; decide)) only [go_sem, Nat.reduceAdd, Nat.reduceLT, Nat.reduceMul, Nat.reduceLeDiff, Int.reduceToNat, Int.reduceLT, Int.reduceLE, ha0, on_atB hl0, lt_add hl0, lt_at hl0, ha1, on_atB hl1, lt_add hl1, lt_at hl1]))
        case d_eF10 => rfl
        refine p_run (l := [20, 21, 22]) (pend' := [22, 21, 20, 17]) (by simp (disch := (apply Apart.mk; decide)) only [go_sem, Nat.reduceAdd, Nat.reduceLT, Nat.reduceMul, Nat.reduceLeDiff, Int.reduceToNat, Int.reduceLT, Int.reduceLE, ha0, on_atB hl0, lt_add hl0, lt_at hl0, ha1, on_atB hl1, lt_add hl1, lt_at hl1, cF6, cF8]; rfl) rfl ?_
        refine p_op (pend' := []) rfl (by simp (disch := (apply Apart.mk; decide)) only [go_sem, Nat.reduceAdd, Nat.reduceLT, Nat.reduceMul, Nat.reduceLeDiff, Int.reduceToNat, Int.reduceLT, Int.reduceLE, ha0, on_atB hl0, lt_add hl0, lt_at hl0, ha1, on_atB hl1, lt_add hl1, lt_at hl1, cF6, cF8]) (by simp (disch := (apply Apart.mk; decide)) only [go_sem, Nat.reduceAdd, Nat.reduceLT, Nat.reduceMul, Nat.reduceLeDiff, Int.reduceToNat, Int.reduceLT, Int.reduceLE, ha0, on_atB hl0, lt_add hl0, lt_at hl0, ha1, on_atB hl1, lt_add hl1, lt_at hl1, cF6, cF8]; rfl) (by rfl) ?_
        refine p_end (by simp (disch := (apply Apart.mk; decide)) only [go_sem, Nat.reduceAdd, Nat.reduceLT, Nat.reduceMul, Nat.reduceLeDiff, Int.reduceToNat, Int.reduceLT, Int.reduceLE, ha0, on_atB hl0, lt_add hl0, lt_at hl0, ha1, on_atB hl1, lt_add hl1, lt_at hl1, cF6, cF8]) ?_
        obtain rfl : _ = rest_ := hr
        exact w_k (A_cut hwf)
      · refine p_run (l := [15, 18]) (pend' := [18, 15, 14, 13, 12, 11, 10, 9, 8]) (by simp (disch := (apply Apart.mk; decide)) only [go_sem, Nat.reduceAdd, Nat.reduceLT, Nat.reduceMul, Nat.reduceLeDiff, Int.reduceToNat, Int.reduceLT, Int.reduceLE, ha0, on_atB hl0, lt_add hl0, lt_at hl0, ha1, on_atB hl1, lt_add hl1, lt_at hl1, cF6, cF8]; rfl) rfl ?_
        refine p_op (pend' := [18]) rfl (by simp (disch := (apply Apart.mk; decide)) only [go_sem, Nat.reduceAdd, Nat.reduceLT, Nat.reduceMul, Nat.reduceLeDiff, Int.reduceToNat, Int.reduceLT, Int.reduceLE, ha0, on_atB hl0, lt_add hl0, lt_at hl0, ha1, on_atB hl1, lt_add hl1, lt_at hl1, cF6, cF8]) (by simp (disch := (apply Apart.mk; decide)) only [go_sem, Nat.reduceAdd, Nat.reduceLT, Nat.reduceMul, Nat.reduceLeDiff, Int.reduceToNat, Int.reduceLT, Int.reduceLE, ha0, on_atB hl0, lt_add hl0, lt_at hl0, ha1, on_atB hl1, lt_add hl1, lt_at hl1, cF6, cF8]; rfl) (by rfl) ?_
        refine p_run (l := [17]) (pend' := [17, 18]) (by simp (disch := (apply Apart.mk; decide)) only [go_sem, Nat.reduceAdd, Nat.reduceLT, Nat.reduceMul, Nat.reduceLeDiff, Int.reduceToNat, Int.reduceLT, Int.reduceLE, ha0, on_atB hl0, lt_add hl0, lt_at hl0, ha1, on_atB hl1, lt_add hl1, lt_at hl1, cF6, cF8]; rfl) rfl ?_
        refine p_op (pend' := [17]) rfl (by simp (disch := (apply Apart.mk; decide)) only [go_sem, Nat.reduceAdd, Nat.reduceLT, Nat.reduceMul, Nat.reduceLeDiff, Int.reduceToNat, Int.reduceLT, Int.reduceLE, ha0, on_atB hl0, lt_add hl0, lt_at hl0, ha1, on_atB hl1, lt_add hl1, lt_at hl1, cF6, cF8]) (by simp (disch := (apply Apart.mk; decide)) only [go_sem, Nat.reduceAdd, Nat.reduceLT, Nat.reduceMul, Nat.reduceLeDiff, Int.reduceToNat, Int.reduceLT, Int.reduceLE, ha0, on_atB hl0, lt_add hl0, lt_at hl0, ha1, on_atB hl1, lt_add hl1, lt_at hl1, cF6, cF8]; rfl) (by rfl) ?_
        refine p_run (l := [20, 21, 22]) (pend' := [22, 21, 20, 17]) (by simp (disch := (apply Apart.mk; decide)) only [go_sem, Nat.reduceAdd, Nat.reduceLT, Nat.reduceMul, Nat.reduceLeDiff, Int.reduceToNat, Int.reduceLT, Int.reduceLE, ha0, on_atB hl0, lt_add hl0, lt_at hl0, ha1, on_atB hl1, lt_add hl1, lt_at hl1, cF6, cF8]; rfl) rfl ?_
        refine p_op (pend' := []) rfl (by simp (disch := (apply Apart.mk; decide)) only [go_sem, Nat.reduceAdd, Nat.reduceLT, Nat.reduceMul, Nat.reduceLeDiff, Int.reduceToNat, Int.reduceLT, Int.reduceLE, ha0, on_atB hl0, lt_add hl0, lt_at hl0, ha1, on_atB hl1, lt_add hl1, lt_at hl1, cF6, cF8]) (by simp (disch := (apply Apart.mk; decide)) only [go_sem, Nat.reduceAdd, Nat.reduceLT, Nat.reduceMul, Nat.reduceLeDiff, Int.reduceToNat, Int.reduceLT, Int.reduceLE, ha0, on_atB hl0, lt_add hl0, lt_at hl0, ha1, on_atB hl1, lt_add hl1, lt_at hl1, cF6, cF8]; rfl) (by rfl) ?_
        refine p_end (by simp (disch := (apply Apart.mk; decide)) only [go_sem, Nat.reduceAdd, Nat.reduceLT, Nat.reduceMul, Nat.reduceLeDiff, Int.reduceToNat, Int.reduceLT, Int.reduceLE, ha0, on_atB hl0, lt_add hl0, lt_at hl0, ha1, on_atB hl1, lt_add hl1, lt_at hl1, cF6, cF8]) ?_
        obtain rfl : _ = rest_ := hr
        exact w_k (A_cut hwf)
    · refine p_run (l := [6, 8, 9, 10, 11]) (pend' := [11, 10, 9, 8, 6, 5, 4]) (by simp (disch := (apply Apart.mk; decide)) only [go_sem, Nat.reduceAdd, Nat.reduceLT, Nat.reduceMul, Nat.reduceLeDiff, Int.reduceToNat, Int.reduceLT, Int.reduceLE, ha0, on_atB hl0, lt_add hl0, lt_at hl0, ha1, on_atB hl1, lt_add hl1, lt_at hl1, cF6]; rfl) rfl ?_
      refine p_op (pend' := [11, 10, 9, 8]) rfl (by simp (disch := (apply Apart.mk; decide)) only [go_sem, Nat.reduceAdd, Nat.reduceLT, Nat.reduceMul, Nat.reduceLeDiff, Int.reduceToNat, Int.reduceLT, Int.reduceLE, ha0, on_atB hl0, lt_add hl0, lt_at hl0, ha1, on_atB hl1, lt_add hl1, lt_at hl1, cF6]) (by simp (disch := (apply Apart.mk; decide)) only [go_sem, Nat.reduceAdd, Nat.reduceLT, Nat.reduceMul, Nat.reduceLeDiff, Int.reduceToNat, Int.reduceLT, Int.reduceLE, ha0, on_atB hl0, lt_add hl0, lt_at hl0, ha1, on_atB hl1, lt_add hl1, lt_at hl1, cF6]; rfl) (by rfl) ?_
      refine p_run (l := [12, 13, 14, 15, 18]) (pend' := [18, 15, 14, 13, 12, 11, 10, 9, 8]) (by simp (disch := (apply Apart.mk; decide)) only [go_sem, Nat.reduceAdd, Nat.reduceLT, Nat.reduceMul, Nat.reduceLeDiff, Int.reduceToNat, Int.reduceLT, Int.reduceLE, ha0, on_atB hl0, lt_add hl0, lt_at hl0, ha1, on_atB hl1, lt_add hl1, lt_at hl1, cF6]; rfl) rfl ?_
      refine p_op (pend' := [18]) rfl (by simp (disch := (apply Apart.mk; decide)) only [go_sem, Nat.reduceAdd, Nat.reduceLT, Nat.reduceMul, Nat.reduceLeDiff, Int.reduceToNat, Int.reduceLT, Int.reduceLE, ha0, on_atB hl0, lt_add hl0, lt_at hl0, ha1, on_atB hl1, lt_add hl1, lt_at hl1, cF6]) (by simp (disch := (apply Apart.mk; decide)) only [go_sem, Nat.reduceAdd, Nat.reduceLT, Nat.reduceMul, Nat.reduceLeDiff, Int.reduceToNat, Int.reduceLT, Int.reduceLE, ha0, on_atB hl0, lt_add hl0, lt_at hl0, ha1, on_atB hl1, lt_add hl1, lt_at hl1, cF6]; rfl) (by rfl) ?_
      refine p_run (l := [17]) (pend' := [17, 18]) (by simp (disch := (apply Apart.mk; decide)) only [go_sem, Nat.reduceAdd, Nat.reduceLT, Nat.reduceMul, Nat.reduceLeDiff, Int.reduceToNat, Int.reduceLT, Int.reduceLE, ha0, on_atB hl0, lt_add hl0, lt_at hl0, ha1, on_atB hl1, lt_add hl1, lt_at hl1, cF6]; rfl) rfl ?_
      refine p_op (pend' := [17]) rfl (by simp (disch := (apply Apart.mk; decide)) only [go_sem, Nat.reduceAdd, Nat.reduceLT, Nat.reduceMul, Nat.reduceLeDiff, Int.reduceToNat, Int.reduceLT, Int.reduceLE, ha0, on_atB hl0, lt_add hl0, lt_at hl0, ha1, on_atB hl1, lt_add hl1, lt_at hl1, cF6]) (by simp (disch := (apply Apart.mk; decide)) only [go_sem, Nat.reduceAdd, Nat.reduceLT, Nat.reduceMul, Nat.reduceLeDiff, Int.reduceToNat, Int.reduceLT, Int.reduceLE, ha0, on_atB hl0, lt_add hl0, lt_at hl0, ha1, on_atB hl1, lt_add hl1, lt_at hl1, cF6]; rfl) (by rfl) ?_
      refine p_run (l := [20, 21, 22]) (pend' := [22, 21, 20, 17]) (by simp (disch := (apply Apart.mk; decide)) only [go_sem, Nat.reduceAdd, Nat.reduceLT, Nat.reduceMul, Nat.reduceLeDiff, Int.reduceToNat, Int.reduceLT, Int.reduceLE, ha0, on_atB hl0, lt_add hl0, lt_at hl0, ha1, on_atB hl1, lt_add hl1, lt_at hl1, cF6]; rfl) rfl ?_
      refine p_op (pend' := []) rfl (by simp (disch := (apply Apart.mk; decide)) only [go_sem, Nat.reduceAdd, Nat.reduceLT, Nat.reduceMul, Nat.reduceLeDiff, Int.reduceToNat, Int.reduceLT, Int.reduceLE, ha0, on_atB hl0, lt_add hl0, lt_at hl0, ha1, on_atB hl1, lt_add hl1, lt_at hl1, cF6]) (by simp (disch := (apply Apart.mk; decide)) only [go_sem, Nat.reduceAdd, Nat.reduceLT, Nat.reduceMul, Nat.reduceLeDiff, Int.reduceToNat, Int.reduceLT, Int.reduceLE, ha0, on_atB hl0, lt_add hl0, lt_at hl0, ha1, on_atB hl1, lt_add hl1, lt_at hl1, cF6]; rfl) (by rfl) ?_
      refine p_end (by simp (disch := (apply Apart.mk; decide)) only [go_sem, Nat.reduceAdd, Nat.reduceLT, Nat.reduceMul, Nat.reduceLeDiff, Int.reduceToNat, Int.reduceLT, Int.reduceLE, ha0, on_atB hl0, lt_add hl0, lt_at hl0, ha1, on_atB hl1, lt_add hl1, lt_at hl1, cF6]) ?_
      obtain rfl : _ = rest_ := hr
      exact w_k (A_cut hwf)
  refine w_seq ?_
  refine w_seq ?_
  refine A_ops ?_
  refine A_upto 1 ?_
  obtain ⟨r8, eF12, hr⟩ := hr.bind
  refine A_call (out := ?o_eF12) (hp := ?p_eF12) ?c_eF12 ?d_eF12 ?_
  case c_eF12 => (refine scansionref18_Array_Words_runs w (l1) ?_ eF12; (simp (disch := (apply Apart.mk; decide)) only [go_sem, Nat.reduceAdd, Nat.reduceLT, Nat.reduceMul, Nat.reduceLeDiff, Int.reduceToNat, Int.reduceLT, Int.reduceLE, ha0, on_atB hl0, lt_add hl0, lt_at hl0, ha1, on_atB hl1, lt_add hl1, lt_at hl1]))
  case d_eF12 => rfl
  refine A_ops_end ?_
  refine w_n ?_
  refine A_condH hr (fun cF13 hr => ?_) (fun cF13 hr => ?_)
  · refine w_joinR (sj := ⟨[(6, .cv (.val (.bool (r2 && rest_))))], h.on []⟩) (A_ops ?_) ?_
    · refine A_upto 2 ?_
      rcases Bool.eq_false_or_eq_true r2 with cF14 | cF14
      · refine A_ops_end ?_
        exact w_k (A_cut hwf)
      · refine A_ops_end ?_
        exact w_k (A_cut hwf)
    refine w_ret ?_
    obtain rfl := hD _ hr
    exact (w_tr (A_endR (A_cut (os' := []) (sl := [(6, .cv (.val (.bool (r2 && rest_))))]) hwf) ⟨rfl, on_nil hwf⟩))
  · refine w_skip ?_
    refine w_n ?_
    refine w_seq ?_
    refine A_ops ?_
    refine A_upto 2 ?_
    obtain ⟨r9, eF15, hr⟩ := hr.bind
    refine A_call (out := ?o_eF15) (hp := ?p_eF15) ?c_eF15 ?d_eF15 ?_
    case c_eF15 => (refine darray_Array_Number_runs a_ b (l0) ?_ eF15; (simp (disch := (apply Apart.mk; decide)) only [go_sem, Nat.reduceAdd, Nat.reduceLT, Nat.reduceMul, Nat.reduceLeDiff, Int.reduceToNat, Int.reduceLT, Int.reduceLE, ha0, on_atB hl0, lt_add hl0, lt_at hl0, ha1, on_atB hl1, lt_add hl1, lt_at hl1]))
    case d_eF15 => rfl
    refine A_ops_end ?_
    refine w_n ?_
    refine w_seq ?_
    refine A_ops ?_
    refine A_upto 2 ?_
    obtain ⟨r10, eF16, hr⟩ := hr.bind
    refine A_call (out := ?o_eF16) (hp := ?p_eF16) ?c_eF16 ?d_eF16 ?_
    case c_eF16 => (refine scansionref18_Array_Number_runs w b (l1) ?_ eF16; (simp (disch := (apply Apart.mk; decide)) only [go_sem, Nat.reduceAdd, Nat.reduceLT, Nat.reduceMul, Nat.reduceLeDiff, Int.reduceToNat, Int.reduceLT, Int.reduceLE, ha0, on_atB hl0, lt_add hl0, lt_at hl0, ha1, on_atB hl1, lt_add hl1, lt_at hl1]))
    case d_eF16 => rfl
    refine A_ops_end ?_
    refine w_n ?_
    refine w_seq ?_
    refine A_ops ?_
    refine A_upto 4 ?_
    obtain ⟨r11, eF17, hr⟩ := hr.bind
    refine A_call (out := ?o_eF17) (hp := ?p_eF17) ?c_eF17 ?d_eF17 ?_
    case c_eF17 => (refine darray_Array_Word_runs a_ (IntKind.i64.wrap ((b.length : Int) - (1 : Int))) (l0) ?_ eF17; (simp (disch := (apply Apart.mk; decide)) only [go_sem, Nat.reduceAdd, Nat.reduceLT, Nat.reduceMul, Nat.reduceLeDiff, Int.reduceToNat, Int.reduceLT, Int.reduceLE, ha0, on_atB hl0, lt_add hl0, lt_at hl0, ha1, on_atB hl1, lt_add hl1, lt_at hl1]))
    case d_eF17 => rfl
    refine A_ops_end ?_
    refine w_n ?_
    refine w_seq ?_
    refine A_ops ?_
    refine A_upto 4 ?_
    obtain ⟨r12, eF18, hr⟩ := hr.bind
    refine A_call (out := ?o_eF18) (hp := ?p_eF18) ?c_eF18 ?d_eF18 ?_
    case c_eF18 => (refine scansionref18_Array_Word_runs w (IntKind.i64.wrap ((b.length : Int) - (1 : Int))) (l1) ?_ eF18; (simp (disch := (apply Apart.mk; decide)) only [go_sem, Nat.reduceAdd, Nat.reduceLT, Nat.reduceMul, Nat.reduceLeDiff, Int.reduceToNat, Int.reduceLT, Int.reduceLE, ha0, on_atB hl0, lt_add hl0, lt_at hl0, ha1, on_atB hl1, lt_add hl1, lt_at hl1]))
    case d_eF18 => rfl
    refine A_ops_end ?_
    refine w_n ?_
    refine w_seq ?_
    refine w_joinR (sj := ⟨[(7, .cv (.val (.bool r2))), (8, .cv (.val (.bool rest_))), (9, .cv (.val (.int .i64 r9.1))), (10, .cv (.val (.bool r9.2))), (11, .cv (.val (.int .i64 r10.1))), (12, .cv (.val (.bool r10.2))), (89, .cv (.val (.bool ((!(r11.1 == r12.1)) || (!(r11.2 == r12.2))))))], h.on []⟩) (A_ops ?_) ?_
    · refine A_upto 4 ?_
      rcases Bool.eq_false_or_eq_true (!(r11.1 == r12.1)) with cF19 | cF19
      · refine A_ops_end ?_
        exact w_k (A_cut hwf)
      · refine A_ops_end ?_
        exact w_k (A_cut hwf)
    refine A_condH hr (fun cF20 hr => ?_) (fun cF20 hr => ?_)
    · refine w_seq ?_
      refine A_region ?_
      refine w_n ?_
      refine w_ret ?_
      obtain rfl := hD _ hr
      exact (w_tr (A_endR (A_cut (os' := []) (sl := [(6, .cv (.val (.bool false)))]) hwf) ⟨rfl, on_nil hwf⟩))
    · refine w_skip ?_
      refine w_n ?_
      refine w_joinR (sj := ⟨[(6, .cv (.val (.bool (r2 && (rest_ && ((r9.1 == r10.1) && (r9.2 == r10.2)))))))], h.on []⟩) (A_ops ?_) ?_
      · refine A_upto 2 ?_
        rcases Bool.eq_false_or_eq_true r2 with cF21 | cF21
        · refine A_upto 3 ?_
          rcases Bool.eq_false_or_eq_true rest_ with cF22 | cF22
          · refine A_upto 5 ?_
            rcases Bool.eq_false_or_eq_true (r9.1 == r10.1) with cF23 | cF23
            · refine A_ops_end ?_
              exact w_k (A_cut hwf)
            · refine A_ops_end ?_
              exact w_k (A_cut hwf)
          · refine A_ops_end ?_
            exact w_k (A_cut hwf)
        · refine A_ops_end ?_
          exact w_k (A_cut hwf)
      refine w_ret ?_
      obtain rfl := hD _ hr
      exact (A_endR (A_cut (os' := []) (sl := [(6, .cv (.val (.bool (r2 && (rest_ && ((r9.1 == r10.1) && (r9.2 == r10.2)))))))]) hwf) ⟨rfl, on_nil hwf⟩)
end Go.Val

/- part GW50 -/
/- scansion/scansionref17.right runs as it is read off. -/
namespace Go.Val
set_option linter.unusedVariables false
set_option linter.unusedSimpArgs false
set_option maxRecDepth 20000
open Go.Proofs
theorem scansionref17_right_runs (words : List Str) {h : Heap} {a : Bool} (e : scansionref17_right words = some a) :
    Runs CT 50 [.cv (.val (.sl (List.map eS words)))] h fun o h' => o = [.cv (.val (.bool a))] ∧ h' = h := by
  refine Runs.start Try.f50 _ Try.func50 rfl (by rw [Try.ntmps50]; simp) (by rfl) (by rfl) (fun hwf hu => ?_)
  obtain ⟨D, hD, hr⟩ : ∃ D : Bool → Prop, (∀ z, D z → z = a) ∧ Holds (scansionref17_right words) D := ⟨fun z => z = a, fun _ h => h, Holds.intro e rfl⟩
  dsimp only [scansionref17_right] at hr
  change wpCode _ _ _ _ _ ⟨[(0, .cv (.val (.sl (List.map eS words))))], h.on []⟩
  refine w_seq ?_
  refine A_region ?_
  refine w_n ?_
  refine w_seq ?_
  refine w_seq ?_
  refine A_region ?_
  refine w_n ?_
  refine A_condH hr (fun cF1 hr => ?_) (fun cF1 hr => ?_)
  · refine w_seq ?_
    refine A_region ?_
    refine w_n ?_
    refine w_ret ?_
    obtain rfl := hD _ hr
    exact (w_tr (A_endR (A_cut (os' := []) (sl := [(2, .cv (.val (.bool false)))]) hwf) ⟨rfl, on_nil hwf⟩))
  · refine w_skip ?_
    refine w_n ?_
    refine w_seq ?_
    refine w_seq ?_
    refine A_region ?_
    refine w_n ?_
    refine w_K (D := D) (fun xX : Unit => ⟨[], h.on []⟩) (fun xX : Unit => scansionref17_right.k1) (fun xX s' hr ht => ?_) ?_
    · dsimp only [scansionref17_right.k1] at hr ht
      refine (w_nT ht ?_)
      refine w_seq ?_
      refine A_region ?_
      refine w_n ?_
      refine w_ret ?_
      obtain rfl := hD _ hr
      exact (A_endR (A_cut (os' := []) (sl := [(2, .cv (.val (.bool true)))]) hwf) ⟨rfl, on_nil hwf⟩)
    · refine w_block ?_
      refine w_Loop (fun xX : Int => ⟨[(0, .cv (.val (.sl (List.map eS words)))), (3, .cv (.val (.int .i64 xX)))], h.on []⟩) hr (A_cut hwf) (fun W1 xX hr => ?_)
      obtain ⟨i, rfl⟩ : ∃ z, z = xX := ⟨xX, rfl⟩
      dsimp only [scansionref17_right.b1] at hr
      refine w_seq ?_
      refine w_seq ?_
      refine A_region ?_
      refine w_n ?_
      refine A_condH hr (fun cF2 hr => ?_) (fun cF2 hr => ?_)
      · refine w_skip ?_
        refine w_n ?_
        refine w_seq ?_
        refine w_block ?_
        obtain ⟨v, vF12, hr⟩ := hr.bind
        refine w_joinR (sj := ⟨[(0, .cv (.val (.sl (List.map eS words)))), (3, .cv (.val (.int .i64 i))), (42, .cv (.val (.bool v)))], h.on []⟩) (w_drawn [0, 1, 2, 3, 4, 5, 6, 7, 8, 9, 10, 11, 12, 13, 14, 15, 16, 17, 18, 19, 20, 21, 22, 23, 24, 25, 26, 27, 28, 29] (by rfl) ?_) ?_
        · have hr := Holds.intro (D := fun z => z = v) vF12 rfl
          obtain ⟨s, nF3, eF4, gF5, hr⟩ := hr.idx
          refine p_run (l := [0, 1, 2, 3, 4, 5, 6]) (pend' := [6, 5, 4, 3, 2, 1, 0]) (by simp (disch := (apply Apart.mk; decide)) only [go_sem, Nat.reduceAdd, Nat.reduceLT, Nat.reduceMul, Nat.reduceLeDiff, Int.reduceToNat, Int.reduceLT, Int.reduceLE, nF3, eF4, gF5]; rfl) rfl ?_
          rcases hr.ite with ⟨cF6, hr⟩ | ⟨cF6, hr⟩
          · refine p_run (l := [7, 8, 9, 10, 11, 12, 13, 14, 15, 16, 17, 18, 19, 20, 21, 22, 23, 24, 25, 26, 27, 28, 29]) (pend' := [29, 28, 27, 26, 25, 24, 23, 22, 21, 20, 19, 18, 17, 16, 15, 14, 13, 12, 11, 10, 9, 8, 7, 6, 5, 4, 3, 2, 1, 0]) (by simp (disch := (apply Apart.mk; decide)) only [go_sem, Nat.reduceAdd, Nat.reduceLT, Nat.reduceMul, Nat.reduceLeDiff, Int.reduceToNat, Int.reduceLT, Int.reduceLE, nF3, eF4, gF5, cF6]; rfl) rfl ?_
            refine p_end (by simp (disch := (apply Apart.mk; decide)) only [go_sem, Nat.reduceAdd, Nat.reduceLT, Nat.reduceMul, Nat.reduceLeDiff, Int.reduceToNat, Int.reduceLT, Int.reduceLE, nF3, eF4, gF5, cF6]) ?_
            obtain rfl : _ = v := hr
            exact w_k (A_cut hwf)
          · refine p_run (l := [7, 8, 9, 10, 11, 12, 13, 14]) (pend' := [14, 13, 12, 11, 10, 9, 8, 7, 6, 5, 4, 3, 2, 1, 0]) (by simp (disch := (apply Apart.mk; decide)) only [go_sem, Nat.reduceAdd, Nat.reduceLT, Nat.reduceMul, Nat.reduceLeDiff, Int.reduceToNat, Int.reduceLT, Int.reduceLE, nF3, eF4, gF5, cF6]; rfl) rfl ?_
            rcases hr.ite with ⟨cF7, hr⟩ | ⟨cF7, hr⟩
            · refine p_run (l := [15, 16, 17, 18, 19, 20, 21, 22, 23, 24, 25, 26, 27, 28, 29]) (pend' := [29, 28, 27, 26, 25, 24, 23, 22, 21, 20, 19, 18, 17, 16, 15, 14, 13, 12, 11, 10, 9, 8, 7, 6, 5, 4, 3, 2, 1, 0]) (by simp (disch := (apply Apart.mk; decide)) only [go_sem, Nat.reduceAdd, Nat.reduceLT, Nat.reduceMul, Nat.reduceLeDiff, Int.reduceToNat, Int.reduceLT, Int.reduceLE, nF3, eF4, gF5, cF6, cF7]; rfl) rfl ?_
              refine p_end (by simp (disch := (apply Apart.mk; decide)) only [go_sem, Nat.reduceAdd, Nat.reduceLT, Nat.reduceMul, Nat.reduceLeDiff, Int.reduceToNat, Int.reduceLT, Int.reduceLE, nF3, eF4, gF5, cF6, nF3, eF4, gF5, cF7]) ?_
              obtain rfl : _ = v := hr
              exact w_k (A_cut hwf)
            · refine p_run (l := [15, 16, 17]) (pend' := [17, 16, 15, 14, 13, 12, 11, 10, 9, 8, 7, 6, 5, 4, 3, 2, 1, 0]) (by simp (disch := (apply Apart.mk; decide)) only [go_sem, Nat.reduceAdd, Nat.reduceLT, Nat.reduceMul, Nat.reduceLeDiff, Int.reduceToNat, Int.reduceLT, Int.reduceLE, nF3, eF4, gF5, cF6, cF7]; rfl) rfl ?_
              rcases hr.ite with ⟨cF8, hr⟩ | ⟨cF8, hr⟩
              · obtain ⟨s1, nF9, eF10, gF11, hr⟩ := hr.idx
                refine p_run (l := [18, 19, 20, 21, 22, 23, 24, 25, 26, 27, 28, 29]) (pend' := [29, 28, 27, 26, 25, 24, 23, 22, 21, 20, 19, 18, 17, 16, 15, 14, 13, 12, 11, 10, 9, 8, 7, 6, 5, 4, 3, 2, 1, 0]) (by simp (disch := (apply Apart.mk; decide)) only [go_sem, Nat.reduceAdd, Nat.reduceLT, Nat.reduceMul, Nat.reduceLeDiff, Int.reduceToNat, Int.reduceLT, Int.reduceLE, nF3, eF4, gF5, cF6, cF7, cF8, nF9, eF10, gF11]; rfl) rfl ?_
                refine p_end (by simp (disch := (apply Apart.mk; decide)) only [go_sem, Nat.reduceAdd, Nat.reduceLT, Nat.reduceMul, Nat.reduceLeDiff, Int.reduceToNat, Int.reduceLT, Int.reduceLE, nF3, eF4, gF5, cF6, nF3, eF4, gF5, cF7, cF8, nF3, eF4, gF5, nF9, eF10, gF11]) ?_
                obtain rfl : _ = v := hr
                exact w_k (A_cut hwf)
              · refine p_run (l := [18, 19, 20, 21, 22, 23, 24, 25, 26, 27, 28, 29]) (pend' := [29, 28, 27, 26, 25, 24, 23, 22, 21, 20, 19, 18, 17, 16, 15, 14, 13, 12, 11, 10, 9, 8, 7, 6, 5, 4, 3, 2, 1, 0]) (by simp (disch := (apply Apart.mk; decide)) only [go_sem, Nat.reduceAdd, Nat.reduceLT, Nat.reduceMul, Nat.reduceLeDiff, Int.reduceToNat, Int.reduceLT, Int.reduceLE, nF3, eF4, gF5, cF6, cF7, cF8]; rfl) rfl ?_
                refine p_end (by simp (disch := (apply Apart.mk; decide)) only [go_sem, Nat.reduceAdd, Nat.reduceLT, Nat.reduceMul, Nat.reduceLeDiff, Int.reduceToNat, Int.reduceLT, Int.reduceLE, nF3, eF4, gF5, cF6, nF3, eF4, gF5, cF7, cF8]) ?_
                obtain rfl : _ = v := hr
                exact w_k (A_cut hwf)
        refine A_condH hr (fun cF13 hr => ?_) (fun cF13 hr => ?_)
        · refine w_seq ?_
          refine A_region ?_
          refine w_n ?_
          refine w_ret ?_
          obtain rfl := hD _ hr
          exact (w_br (w_tr (w_tr (w_br (w_tr (w_tr (A_endR (A_cut (os' := []) (sl := [(2, .cv (.val (.bool false)))]) hwf) ⟨rfl, on_nil hwf⟩)))))))
        · refine w_skip ?_
          refine (w_bn (w_n ?_))
          refine A_region ?_
          exact (w_k ⟨(IntKind.i64.wrap (i + (1 : Int))), hr, (A_cut hwf)⟩)
      · refine w_exit ?_
        exact (w_te (w_te (w_bx (w_k ⟨(), (hr).map, (A_cut hwf)⟩))))
end Go.Val

/- part GW74 -/
/- scansion/scansionref17.one runs as it is read off. -/
namespace Go.Val
set_option linter.unusedVariables false
set_option linter.unusedSimpArgs false
set_option maxRecDepth 20000
open Go.Proofs
theorem scansionref17_one_runs (ends : List Str) {h : Heap} {a : Str} (e : scansionref17_one ends = some a) :
    Runs CT 74 [.cv (.val (.sl (List.map eS ends)))] h fun o h' => o = [.cv (.val (.str (bs a)))] ∧ h' = h := by
  refine Runs.start Try.f74 _ Try.func74 rfl (by rw [Try.ntmps74]; simp) (by rfl) (by rfl) (fun hwf hu => ?_)
  obtain ⟨D, hD, hr⟩ : ∃ D : Str → Prop, (∀ z, D z → z = a) ∧ Holds (scansionref17_one ends) D := ⟨fun z => z = a, fun _ h => h, Holds.intro e rfl⟩
  dsimp only [scansionref17_one] at hr
  change wpCode _ _ _ _ _ ⟨[(0, .cv (.val (.sl (List.map eS ends))))], h.on []⟩
  refine w_seq ?_
  refine A_region ?_
  refine w_n ?_
  refine w_seq ?_
  refine A_region ?_
  refine w_n ?_
  refine w_seq ?_
  refine w_seq ?_
  refine A_region ?_
  refine w_n ?_
  refine w_K (D := D) (fun xX : Str => ⟨[(3, .cv (.val (.str (bs xX))))], h.on []⟩) (fun xX : Str => scansionref17_one.k1 xX) (fun xX s' hr ht => ?_) ?_
  · obtain ⟨s, rfl⟩ : ∃ z, z = xX := ⟨xX, rfl⟩
    dsimp only [scansionref17_one.k1] at hr ht
    refine (w_nT ht ?_)
    refine w_seq ?_
    refine A_region ?_
    refine w_n ?_
    refine w_ret ?_
    obtain rfl := hD _ hr
    exact (A_endR (A_cut (os' := []) (sl := [(2, .cv (.val (.str (bs s))))]) hwf) ⟨rfl, on_nil hwf⟩)
  · refine w_block ?_
    refine w_Loop (fun xX : (Str × Int) => ⟨[(0, .cv (.val (.sl (List.map eS ends)))), (3, .cv (.val (.str (bs xX.1)))), (4, .cv (.val (.int .i64 xX.2)))], h.on []⟩) hr (A_cut hwf) (fun W1 xX hr => ?_)
    obtain ⟨s1, i⟩ := xX
    dsimp only [scansionref17_one.b1] at hr
    refine w_seq ?_
    refine w_seq ?_
    refine A_region ?_
    refine w_n ?_
    refine A_condH hr (fun cF1 hr => ?_) (fun cF1 hr => ?_)
    · refine w_skip ?_
      refine w_n ?_
      refine w_seq ?_
      refine w_block ?_
      refine w_drawn [0, 1, 2, 3, 4, 5, 6, 7, 8, 9, 10, 11, 12, 13, 14, 15] (by rfl) ?_
      obtain ⟨s2, nF2, eF3, gF4, hr⟩ := hr.idx
      obtain ⟨nF5, hr⟩ := hr.roomS
      obtain ⟨nF6, hr⟩ := hr.roomS
      refine p_run (l := [0, 1, 2, 3, 4, 5, 6, 7, 8, 9, 10, 11, 12, 13, 14]) (pend' := [14, 13, 12, 11, 10, 9, 8, 7, 6, 5, 4, 3, 2, 1, 0]) (by simp (disch := (apply Apart.mk; decide)) only [go_sem, Nat.reduceAdd, Nat.reduceLT, Nat.reduceMul, Nat.reduceLeDiff, Int.reduceToNat, Int.reduceLT, Int.reduceLE, nF2, eF3, gF4, nF5, nF6]; rfl) rfl ?_
      refine p_op (pend' := []) rfl (by simp (disch := (apply Apart.mk; decide)) only [go_sem, Nat.reduceAdd, Nat.reduceLT, Nat.reduceMul, Nat.reduceLeDiff, Int.reduceToNat, Int.reduceLT, Int.reduceLE, nF2, eF3, gF4, nF5, nF6]) (by simp (disch := (apply Apart.mk; decide)) only [go_sem, Nat.reduceAdd, Nat.reduceLT, Nat.reduceMul, Nat.reduceLeDiff, Int.reduceToNat, Int.reduceLT, Int.reduceLE, nF2, eF3, gF4, nF5, nF6]; rfl) (by rfl) ?_
      refine p_end (by simp (disch := (apply Apart.mk; decide)) only [go_sem, Nat.reduceAdd, Nat.reduceLT, Nat.reduceMul, Nat.reduceLeDiff, Int.reduceToNat, Int.reduceLT, Int.reduceLE, nF2, eF3, gF4, nF5, nF2, eF3, gF4, nF6]) ?_
      refine (w_bn (w_n ?_))
      refine A_region ?_
      exact (w_k ⟨(((s1 ++ ([(u8 (IntKind.u8.wrap (s2.length : Int)))])) ++ s2), (IntKind.i64.wrap (i + (1 : Int)))), hr, (A_cut hwf)⟩)
    · refine w_exit ?_
      exact (w_te (w_te (w_bx (w_k ⟨s1, (hr).map, (A_cut hwf)⟩))))
end Go.Val

/- part GW75 -/
/- scansion/scansionref17.behind runs as it is read off. -/
namespace Go.Val
set_option linter.unusedVariables false
set_option linter.unusedSimpArgs false
set_option maxRecDepth 20000
open Go.Proofs
theorem scansionref17_behind_runs (ends : List Str) (b : UInt8) {h : Heap} {a : List Str} (e : scansionref17_behind ends b = some a) :
    Runs CT 75 [.cv (.val (.sl (List.map eS ends))), .cv (.val (.int .u8 (b.toNat : Int)))] h fun o h' => o = [.cv (.val (.sl (List.map eS a)))] ∧ h' = h := by
  refine Runs.start Try.f75 _ Try.func75 rfl (by rw [Try.ntmps75]; simp) (by rfl) (by rfl) (fun hwf hu => ?_)
  obtain ⟨D, hD, hr⟩ : ∃ D : List Str → Prop, (∀ z, D z → z = a) ∧ Holds (scansionref17_behind ends b) D := ⟨fun z => z = a, fun _ h => h, Holds.intro e rfl⟩
  dsimp only [scansionref17_behind] at hr
  change wpCode _ _ _ _ _ ⟨[(0, .cv (.val (.sl (List.map eS ends)))), (1, .cv (.val (.int .u8 (b.toNat : Int))))], h.on []⟩
  refine w_seq ?_
  refine A_region ?_
  refine w_n ?_
  refine w_seq ?_
  refine A_region ?_
  refine w_n ?_
  refine w_seq ?_
  refine w_seq ?_
  refine A_region ?_
  refine w_n ?_
  refine w_K (D := D) (fun xX : List Str => ⟨[(5, .cv (.row 9 (List.map eS xX)))], h.on []⟩) (fun xX : List Str => scansionref17_behind.k1 xX) (fun xX s' hr ht => ?_) ?_
  · obtain ⟨out, rfl⟩ : ∃ z, z = xX := ⟨xX, rfl⟩
    dsimp only [scansionref17_behind.k1] at hr ht
    refine (w_nT ht ?_)
    refine w_seq ?_
    refine A_region ?_
    refine w_n ?_
    refine w_ret ?_
    obtain rfl := hD _ hr
    exact (A_endR (.fix _ _ (.slot 4) 9 _ (by simp (disch := (apply Apart.mk; decide)) only [go_sem, Nat.reduceAdd, Nat.reduceLT, Nat.reduceMul, Nat.reduceLeDiff, Int.reduceToNat, Int.reduceLT, Int.reduceLE]; rfl) (A_cut (os' := []) (sl := [(4, .cv (.val (.sl (List.map eS out))))]) hwf)) ⟨rfl, on_nil hwf⟩)
  · refine w_block ?_
    refine w_Loop (fun xX : (List Str × Int) => ⟨[(0, .cv (.val (.sl (List.map eS ends)))), (1, .cv (.val (.int .u8 (b.toNat : Int)))), (5, .cv (.row 9 (List.map eS xX.1))), (6, .cv (.val (.int .i64 xX.2)))], h.on []⟩) hr (A_cut hwf) (fun W1 xX hr => ?_)
    obtain ⟨out1, i⟩ := xX
    dsimp only [scansionref17_behind.b1] at hr
    refine w_seq ?_
    refine w_seq ?_
    refine A_region ?_
    refine w_n ?_
    refine A_condH hr (fun cF1 hr => ?_) (fun cF1 hr => ?_)
    · refine w_skip ?_
      refine w_n ?_
      refine w_seq ?_
      refine w_K (D := (Aft W1 D)) (fun xX : List Str => ⟨[(0, .cv (.val (.sl (List.map eS ends)))), (1, .cv (.val (.int .u8 (b.toNat : Int)))), (5, .cv (.row 9 (List.map eS xX))), (6, .cv (.val (.int .i64 i)))], h.on []⟩) (fun xX : List Str => scansionref17_behind.k2 i xX) (fun xX s' hr ht => ?_) ?_
      · obtain ⟨out2, rfl⟩ : ∃ z, z = xX := ⟨xX, rfl⟩
        dsimp only [scansionref17_behind.k2] at hr ht
        refine (w_nT ht ?_)
        refine A_region ?_
        exact (w_k ⟨(out2, (IntKind.i64.wrap (i + (1 : Int)))), hr, (A_cut hwf)⟩)
      · refine w_block ?_
        obtain ⟨v, vF8, hr⟩ := hr.bind
        refine w_joinR (sj := ⟨[(0, .cv (.val (.sl (List.map eS ends)))), (1, .cv (.val (.int .u8 (b.toNat : Int)))), (5, .cv (.row 9 (List.map eS out1))), (6, .cv (.val (.int .i64 i))), (27, .cv (.val (.bool v)))], h.on []⟩) (A_ops ?_) ?_
        · have hr := Holds.intro (D := fun z => z = v) vF8 rfl
          obtain ⟨s, nF2, eF3, gF4, hr⟩ := hr.idx
          refine A_upto 7 ?_
          rcases hr.ite with ⟨cF5, hr⟩ | ⟨cF5, hr⟩
          · obtain ⟨c, eF6, gF7, hr⟩ := hr.idxK
            refine A_ops_end ?_
            obtain rfl : _ = v := hr
            exact w_k (A_cut hwf)
          · refine A_ops_end ?_
            obtain rfl : _ = v := hr
            exact w_k (A_cut hwf)
        refine A_condH hr (fun cF9 hr => ?_) (fun cF9 hr => ?_)
        · obtain ⟨s1, nF10, eF11, gF12, hr⟩ := hr.idx
          obtain ⟨nF13, nF14, hr⟩ := hr.cutL
          obtain ⟨nF15, hr⟩ := hr.room
          refine A_region ?_
          exact (w_bn (w_k ⟨(out1 ++ ([(List.drop (Int.toNat (1 : Int)) s1)])), hr, (A_cut hwf)⟩))
        · refine w_skip ?_
          exact (w_bn (w_k ⟨out1, hr, (A_cut hwf)⟩))
    · refine w_exit ?_
      exact (w_te (w_te (w_bx (w_k ⟨out1, (hr).map, (A_cut hwf)⟩))))
end Go.Val

/- part GW51 -/
/- (*scansion/scansionref17.maker).state runs as it is read off. -/
namespace Go.Val
set_option linter.unusedVariables false
set_option linter.unusedSimpArgs false
set_option maxRecDepth 20000
open Go.Proofs
theorem scansionref17_maker_state_runs_r : ∀ (fu : Nat) (m : Tscansionref17_maker) (ends : List Str) (l0 : Nat) {h : Heap} (ha0 : h.at_ l0 = some (.cells [.row 4 (List.map eB m.g.Final), .row 35 (List.map (eL eEdge) m.g.Edges), .row 9 (List.map eS m.ends)])) {a : (Int × Tscansionref17_maker)} (e : scansionref17_maker_state.r fu m ends = some a),
    Runs CT 51 [.cv (.val (.ptr (some (l0, 0)))), .cv (.val (.sl (List.map eS ends)))] h fun o h' => o = [.cv (.val (.int .i64 a.1))] ∧ h' = (h.upd l0 (.cells [.row 4 (List.map eB a.2.g.Final), .row 35 (List.map (eL eEdge) a.2.g.Edges), .row 9 (List.map eS a.2.ends)])) := by
  intro fu
  induction fu with
  | zero => intros; rename_i e; simp [scansionref17_maker_state.r] at e
  | succ fu ih =>
    intro m ends l0 h ha0 a e
    refine Runs.start Try.f51 _ Try.func51 rfl (by rw [Try.ntmps51]; simp) (by rfl) (by rfl) (fun hwf hu => ?_)
    have hl0 := (hwf _ _ ha0).1
    have kl0 := locF hl0
    obtain ⟨D, hD, hr⟩ : ∃ D : (Int × Tscansionref17_maker) → Prop, (∀ z, D z → z = a) ∧ Holds (scansionref17_maker_state.r (fu + 1) m ends) D := ⟨fun z => z = a, fun _ h => h, Holds.intro e rfl⟩
    dsimp only [scansionref17_maker_state.r] at hr
    change wpCode _ _ _ _ _ ⟨[(0, .cv (.val (.ptr (some (l0, 0))))), (1, .cv (.val (.sl (List.map eS ends))))], h.on []⟩
    refine w_seq ?_
    refine w_region rfl (by simp (disch := (apply Apart.mk; decide)) only [go_sem, Nat.reduceAdd, Nat.reduceLT, Nat.reduceMul, Nat.reduceLeDiff, Int.reduceToNat, Int.reduceLT, Int.reduceLE, ha0, on_atB hl0, lt_add hl0, lt_at hl0, on_updB hl0, on_atU hl0, on_updU hl0, upd_same ha0]; rfl) ?_
    refine w_n ?_
    refine w_seq ?_
    refine A_ops ?_
    refine w_upto 1 rfl (by simp (disch := (apply Apart.mk; decide)) only [go_sem, Nat.reduceAdd, Nat.reduceLT, Nat.reduceMul, Nat.reduceLeDiff, Int.reduceToNat, Int.reduceLT, Int.reduceLE, ha0, on_atB hl0, lt_add hl0, lt_at hl0, on_updB hl0, on_atU hl0, on_updU hl0, upd_same ha0]; rfl) ?_
    obtain ⟨r, eF1, hr⟩ := hr.bind
    refine w_call' (out := ?o_eF1) (hp := ?p_eF1) rfl (by simp (disch := (apply Apart.mk; decide)) only [go_sem, Nat.reduceAdd, Nat.reduceLT, Nat.reduceMul, Nat.reduceLeDiff, Int.reduceToNat, Int.reduceLT, Int.reduceLE, ha0, on_atB hl0, lt_add hl0, lt_at hl0, on_updB hl0, on_atU hl0, on_updU hl0, upd_same ha0, Option.getD_some]; rfl) (by simp (disch := (apply Apart.mk; decide)) only [go_sem, Nat.reduceAdd, Nat.reduceLT, Nat.reduceMul, Nat.reduceLeDiff, Int.reduceToNat, Int.reduceLT, Int.reduceLE, ha0, on_atB hl0, lt_add hl0, lt_at hl0, on_updB hl0, on_atU hl0, on_updU hl0, upd_same ha0, Option.getD_some]; rfl) (by simp (disch := (apply Apart.mk; decide)) only [go_sem, Nat.reduceAdd, Nat.reduceLT, Nat.reduceMul, Nat.reduceLeDiff, Int.reduceToNat, Int.reduceLT, Int.reduceLE, ha0, on_atB hl0, lt_add hl0, lt_at hl0, on_updB hl0, on_atU hl0, on_updU hl0, upd_same ha0, Option.getD_some]; rfl) ?c_eF1 ?d_eF1 ?_
    case c_eF1 => exact scansionref17_one_runs ends eF1
    case d_eF1 => rfl
    refine w_ops_end (by simp (disch := (apply Apart.mk; decide)) only [go_sem, Nat.reduceAdd, Nat.reduceLT, Nat.reduceMul, Nat.reduceLeDiff, Int.reduceToNat, Int.reduceLT, Int.reduceLE, ha0, on_atB hl0, lt_add hl0, lt_at hl0, on_updB hl0, on_atU hl0, on_updU hl0, upd_same ha0]; rfl) ?_
    refine w_n ?_
    refine w_seq ?_
    refine w_seq ?_
    refine w_region rfl (by simp (disch := (apply Apart.mk; decide)) only [go_sem, Nat.reduceAdd, Nat.reduceLT, Nat.reduceMul, Nat.reduceLeDiff, Int.reduceToNat, Int.reduceLT, Int.reduceLE, ha0, on_atB hl0, lt_add hl0, lt_at hl0, on_updB hl0, on_atU hl0, on_updU hl0, upd_same ha0]; rfl) ?_
    refine w_n ?_
    refine w_K (D := D) (fun xX : Unit => ⟨[(0, .cv (.val (.ptr (some (l0, 0))))), (1, .cv (.val (.sl (List.map eS ends)))), (5, .cv (.val (.str (bs r))))], h.on []⟩) (fun xX : Unit => scansionref17_maker_state.k1 (scansionref17_maker_state.r fu) m ends r) (fun xX s' hr ht => ?_) ?_
    · dsimp only [scansionref17_maker_state.k1] at hr ht
      refine (w_nT ht ?_)
      refine w_seq ?_
      refine w_region rfl (by simp (disch := (apply Apart.mk; decide)) only [go_sem, Nat.reduceAdd, Nat.reduceLT, Nat.reduceMul, Nat.reduceLeDiff, Int.reduceToNat, Int.reduceLT, Int.reduceLE, ha0, on_atB hl0, lt_add hl0, lt_at hl0, on_updB hl0, on_atU hl0, on_updU hl0, upd_same ha0]; rfl) ?_
      refine w_n ?_
      refine w_seq ?_
      refine w_seq ?_
      refine w_region rfl (by simp (disch := (apply Apart.mk; decide)) only [go_sem, Nat.reduceAdd, Nat.reduceLT, Nat.reduceMul, Nat.reduceLeDiff, Int.reduceToNat, Int.reduceLT, Int.reduceLE, ha0, on_atB hl0, lt_add hl0, lt_at hl0, on_updB hl0, on_atU hl0, on_updU hl0, upd_same ha0]; rfl) ?_
      refine w_n ?_
      refine w_K (D := D) (fun xX : (List TEdge × List Bool × List (List TEdge) × List Str) => ⟨[(0, .cv (.val (.ptr (some (l0, 0))))), (1, .cv (.val (.sl (List.map eS ends)))), (5, .cv (.val (.str (bs r)))), (7, .cv (.row 37 (List.map eEdge xX.1)))], (h.upd l0 (.cells [.row 4 (List.map eB xX.2.1), .row 35 (List.map (eL eEdge) xX.2.2.1), .row 9 (List.map eS xX.2.2.2)])).on []⟩) (fun xX : (List TEdge × List Bool × List (List TEdge) × List Str) => scansionref17_maker_state.k2 ends r xX.1 xX.2.1 xX.2.2.1 xX.2.2.2) (fun xX s' hr ht => ?_) ?_
      · obtain ⟨edges, Final, Edges, ends1⟩ := xX
        dsimp only [scansionref17_maker_state.k2] at hr ht
        refine (w_nT ht ?_)
        refine w_seq ?_
        obtain ⟨nF2, hr⟩ := hr.room
        refine w_region rfl (by simp (disch := (apply Apart.mk; decide)) only [go_sem, Nat.reduceAdd, Nat.reduceLT, Nat.reduceMul, Nat.reduceLeDiff, Int.reduceToNat, Int.reduceLT, Int.reduceLE, ha0, on_atB hl0, lt_add hl0, lt_at hl0, on_updB hl0, on_atU hl0, on_updU hl0, upd_same ha0, nF2]; rfl) ?_
        refine w_n ?_
        obtain ⟨Final1, vF8, hr⟩ := hr.bind
        refine w_joinR (sj := ⟨[(0, .cv (.val (.ptr (some (l0, 0))))), (7, .cv (.row 37 (List.map eEdge edges)))], (h.upd l0 (.cells [.row 4 (List.map eB Final1), .row 35 (List.map (eL eEdge) Edges), .row 9 (List.map eS (ends1 ++ ([r])))])).on []⟩) (w_drawn [0, 1, 2, 3, 4, 5, 6, 7, 8, 9, 10, 11, 12, 13, 14, 15, 16, 17, 18, 19, 20] (by rfl) ?_) ?_
        · have hr := Holds.intro (D := fun z => z = Final1) vF8 rfl
          refine p_run (l := [0, 1, 2, 3, 4, 5, 6, 7, 8, 9]) (pend' := [9, 8, 7, 6, 5, 4, 3, 2, 1, 0]) (by simp (disch := (apply Apart.mk; decide)) only [go_sem, Nat.reduceAdd, Nat.reduceLT, Nat.reduceMul, Nat.reduceLeDiff, Int.reduceToNat, Int.reduceLT, Int.reduceLE, ha0, on_atB hl0, lt_add hl0, lt_at hl0, on_updB hl0, on_atU hl0, on_updU hl0, upd_same ha0]; rfl) rfl ?_
          rcases hr.ite with ⟨cF3, hr⟩ | ⟨cF3, hr⟩
          · obtain ⟨s, eF4, gF5, hr⟩ := hr.idxK
            obtain ⟨nF6, hr⟩ := hr.room
            refine p_run (l := [10, 11, 12, 13, 14, 15]) (pend' := [15, 14, 13, 12, 11, 10, 9, 8, 7, 6, 5, 4, 3, 2, 1, 0]) (by simp (disch := (apply Apart.mk; decide)) only [go_sem, Nat.reduceAdd, Nat.reduceLT, Nat.reduceMul, Nat.reduceLeDiff, Int.reduceToNat, Int.reduceLT, Int.reduceLE, ha0, on_atB hl0, lt_add hl0, lt_at hl0, on_updB hl0, on_atU hl0, on_updU hl0, upd_same ha0, cF3, eF4, gF5, nF6]; rfl) rfl ?_
            refine p_op (pend' := [0]) rfl (by simp (disch := (apply Apart.mk; decide)) only [go_sem, Nat.reduceAdd, Nat.reduceLT, Nat.reduceMul, Nat.reduceLeDiff, Int.reduceToNat, Int.reduceLT, Int.reduceLE, ha0, on_atB hl0, lt_add hl0, lt_at hl0, on_updB hl0, on_atU hl0, on_updU hl0, upd_same ha0, cF3, eF4, gF5, nF6]) (by simp (disch := (apply Apart.mk; decide)) only [go_sem, Nat.reduceAdd, Nat.reduceLT, Nat.reduceMul, Nat.reduceLeDiff, Int.reduceToNat, Int.reduceLT, Int.reduceLE, ha0, on_atB hl0, lt_add hl0, lt_at hl0, on_updB hl0, on_atU hl0, on_updU hl0, upd_same ha0, cF3, eF4, gF5, nF6]; rfl) (by rfl) ?_
            refine p_run (l := [17, 18, 19]) (pend' := [19, 18, 17, 0]) (by simp (disch := (apply Apart.mk; decide)) only [go_sem, Nat.reduceAdd, Nat.reduceLT, Nat.reduceMul, Nat.reduceLeDiff, Int.reduceToNat, Int.reduceLT, Int.reduceLE, ha0, on_atB hl0, lt_add hl0, lt_at hl0, on_updB hl0, on_atU hl0, on_updU hl0, upd_same ha0, cF3, eF4, gF5, nF6]; rfl) rfl ?_
            refine p_op (pend' := []) rfl (by simp (disch := (apply Apart.mk; decide)) only [go_sem, Nat.reduceAdd, Nat.reduceLT, Nat.reduceMul, Nat.reduceLeDiff, Int.reduceToNat, Int.reduceLT, Int.reduceLE, ha0, on_atB hl0, lt_add hl0, lt_at hl0, on_updB hl0, on_atU hl0, on_updU hl0, upd_same ha0, cF3, eF4, gF5, nF6]) (by simp (disch := (apply Apart.mk; decide)) only [go_sem, Nat.reduceAdd, Nat.reduceLT, Nat.reduceMul, Nat.reduceLeDiff, Int.reduceToNat, Int.reduceLT, Int.reduceLE, ha0, on_atB hl0, lt_add hl0, lt_at hl0, on_updB hl0, on_atU hl0, on_updU hl0, upd_same ha0, cF3, eF4, gF5, nF6]; rfl) (by rfl) ?_
            refine p_end (by simp (disch := (apply Apart.mk; decide)) only [go_sem, Nat.reduceAdd, Nat.reduceLT, Nat.reduceMul, Nat.reduceLeDiff, Int.reduceToNat, Int.reduceLT, Int.reduceLE, ha0, on_atB hl0, lt_add hl0, lt_at hl0, on_updB hl0, on_atU hl0, on_updU hl0, upd_same ha0, cF3, eF4, gF5, nF6]) ?_
            obtain rfl : _ = Final1 := hr
            exact w_k (To.cut (h := (h.upd l0 (.cells [.row 4 (List.map eB (Final ++ ([(s == ([] : Str))]))), .row 35 (List.map (eL eEdge) Edges), .row 9 (List.map eS (ends1 ++ ([r])))]))) (WF.upd hwf hl0 (by simp (disch := (apply Apart.mk; decide)) only [go_sem, Nat.reduceAdd, Nat.reduceLT, Nat.reduceMul, Nat.reduceLeDiff, Int.reduceToNat, Int.reduceLT, Int.reduceLE, ha0, on_atB hl0, lt_add hl0, lt_at hl0, on_updB hl0, on_atU hl0, on_updU hl0, upd_same ha0])) (Nat.le_refl _) (by first | rfl | (simp (disch := (apply Apart.mk; decide)) only [go_sem, Nat.reduceAdd, Nat.reduceLT, Nat.reduceMul, Nat.reduceLeDiff, Int.reduceToNat, Int.reduceLT, Int.reduceLE, ha0, on_atB hl0, lt_add hl0, lt_at hl0, on_updB hl0, on_atU hl0, on_updU hl0, upd_same ha0, cF3]; rfl)) (by simp (disch := (apply Apart.mk; decide)) only [go_sem, Nat.reduceAdd, Nat.reduceLT, Nat.reduceMul, Nat.reduceLeDiff, Int.reduceToNat, Int.reduceLT, Int.reduceLE, ha0, on_atB hl0, lt_add hl0, lt_at hl0, on_updB hl0, on_atU hl0, on_updU hl0, upd_same ha0, cF3]))
          · obtain ⟨nF7, hr⟩ := hr.room
            refine p_run (l := [10, 11, 12, 13, 14, 15]) (pend' := [15, 14, 13, 12, 11, 10, 9, 8, 7, 6, 5, 4, 3, 2, 1, 0]) (by simp (disch := (apply Apart.mk; decide)) only [go_sem, Nat.reduceAdd, Nat.reduceLT, Nat.reduceMul, Nat.reduceLeDiff, Int.reduceToNat, Int.reduceLT, Int.reduceLE, ha0, on_atB hl0, lt_add hl0, lt_at hl0, on_updB hl0, on_atU hl0, on_updU hl0, upd_same ha0, cF3, nF7]; rfl) rfl ?_
            refine p_op (pend' := [0]) rfl (by simp (disch := (apply Apart.mk; decide)) only [go_sem, Nat.reduceAdd, Nat.reduceLT, Nat.reduceMul, Nat.reduceLeDiff, Int.reduceToNat, Int.reduceLT, Int.reduceLE, ha0, on_atB hl0, lt_add hl0, lt_at hl0, on_updB hl0, on_atU hl0, on_updU hl0, upd_same ha0, cF3, nF7]) (by simp (disch := (apply Apart.mk; decide)) only [go_sem, Nat.reduceAdd, Nat.reduceLT, Nat.reduceMul, Nat.reduceLeDiff, Int.reduceToNat, Int.reduceLT, Int.reduceLE, ha0, on_atB hl0, lt_add hl0, lt_at hl0, on_updB hl0, on_atU hl0, on_updU hl0, upd_same ha0, cF3, nF7]; rfl) (by rfl) ?_
            refine p_run (l := [17, 18, 19]) (pend' := [19, 18, 17, 0]) (by simp (disch := (apply Apart.mk; decide)) only [go_sem, Nat.reduceAdd, Nat.reduceLT, Nat.reduceMul, Nat.reduceLeDiff, Int.reduceToNat, Int.reduceLT, Int.reduceLE, ha0, on_atB hl0, lt_add hl0, lt_at hl0, on_updB hl0, on_atU hl0, on_updU hl0, upd_same ha0, cF3, nF7]; rfl) rfl ?_
            refine p_op (pend' := []) rfl (by simp (disch := (apply Apart.mk; decide)) only [go_sem, Nat.reduceAdd, Nat.reduceLT, Nat.reduceMul, Nat.reduceLeDiff, Int.reduceToNat, Int.reduceLT, Int.reduceLE, ha0, on_atB hl0, lt_add hl0, lt_at hl0, on_updB hl0, on_atU hl0, on_updU hl0, upd_same ha0, cF3, nF7]) (by simp (disch := (apply Apart.mk; decide)) only [go_sem, Nat.reduceAdd, Nat.reduceLT, Nat.reduceMul, Nat.reduceLeDiff, Int.reduceToNat, Int.reduceLT, Int.reduceLE, ha0, on_atB hl0, lt_add hl0, lt_at hl0, on_updB hl0, on_atU hl0, on_updU hl0, upd_same ha0, cF3, nF7]; rfl) (by rfl) ?_
            refine p_end (by simp (disch := (apply Apart.mk; decide)) only [go_sem, Nat.reduceAdd, Nat.reduceLT, Nat.reduceMul, Nat.reduceLeDiff, Int.reduceToNat, Int.reduceLT, Int.reduceLE, ha0, on_atB hl0, lt_add hl0, lt_at hl0, on_updB hl0, on_atU hl0, on_updU hl0, upd_same ha0, cF3, nF7]) ?_
            obtain rfl : _ = Final1 := hr
            exact w_k (To.cut (h := (h.upd l0 (.cells [.row 4 (List.map eB (Final ++ ([false]))), .row 35 (List.map (eL eEdge) Edges), .row 9 (List.map eS (ends1 ++ ([r])))]))) (WF.upd hwf hl0 (by simp (disch := (apply Apart.mk; decide)) only [go_sem, Nat.reduceAdd, Nat.reduceLT, Nat.reduceMul, Nat.reduceLeDiff, Int.reduceToNat, Int.reduceLT, Int.reduceLE, ha0, on_atB hl0, lt_add hl0, lt_at hl0, on_updB hl0, on_atU hl0, on_updU hl0, upd_same ha0])) (Nat.le_refl _) (by first | rfl | (simp (disch := (apply Apart.mk; decide)) only [go_sem, Nat.reduceAdd, Nat.reduceLT, Nat.reduceMul, Nat.reduceLeDiff, Int.reduceToNat, Int.reduceLT, Int.reduceLE, ha0, on_atB hl0, lt_add hl0, lt_at hl0, on_updB hl0, on_atU hl0, on_updU hl0, upd_same ha0, cF3]; rfl)) (by simp (disch := (apply Apart.mk; decide)) only [go_sem, Nat.reduceAdd, Nat.reduceLT, Nat.reduceMul, Nat.reduceLeDiff, Int.reduceToNat, Int.reduceLT, Int.reduceLE, ha0, on_atB hl0, lt_add hl0, lt_at hl0, on_updB hl0, on_atU hl0, on_updU hl0, upd_same ha0, cF3]))
        refine w_seq ?_
        obtain ⟨nF9, hr⟩ := hr.room
        refine w_region rfl (by simp (disch := (apply Apart.mk; decide)) only [go_sem, Nat.reduceAdd, Nat.reduceLT, Nat.reduceMul, Nat.reduceLeDiff, Int.reduceToNat, Int.reduceLT, Int.reduceLE, ha0, on_atB hl0, lt_add hl0, lt_at hl0, on_updB hl0, on_atU hl0, on_updU hl0, upd_same ha0, nF9]; rfl) ?_
        refine w_n ?_
        refine w_seq ?_
        refine w_region rfl (by simp (disch := (apply Apart.mk; decide)) only [go_sem, Nat.reduceAdd, Nat.reduceLT, Nat.reduceMul, Nat.reduceLeDiff, Int.reduceToNat, Int.reduceLT, Int.reduceLE, ha0, on_atB hl0, lt_add hl0, lt_at hl0, on_updB hl0, on_atU hl0, on_updU hl0, upd_same ha0]; rfl) ?_
        refine w_n ?_
        refine w_ret ?_
        obtain rfl := hD _ hr
        exact (w_endR (To.cut (os' := []) (sl := [(4, .cv (.val (.int .i64 (IntKind.i64.wrap (((ends1 ++ ([r])).length : Int) - (1 : Int))))))]) (h := (h.upd l0 (.cells [.row 4 (List.map eB Final1), .row 35 (List.map (eL eEdge) (Edges ++ ([edges]))), .row 9 (List.map eS (ends1 ++ ([r])))]))) (WF.upd hwf hl0 (by simp (disch := (apply Apart.mk; decide)) only [go_sem, Nat.reduceAdd, Nat.reduceLT, Nat.reduceMul, Nat.reduceLeDiff, Int.reduceToNat, Int.reduceLT, Int.reduceLE, ha0, on_atB hl0, lt_add hl0, lt_at hl0, on_updB hl0, on_atU hl0, on_updU hl0, upd_same ha0])) (Nat.le_refl _) (by first | rfl | (simp (disch := (apply Apart.mk; decide)) only [go_sem, Nat.reduceAdd, Nat.reduceLT, Nat.reduceMul, Nat.reduceLeDiff, Int.reduceToNat, Int.reduceLT, Int.reduceLE, ha0, on_atB hl0, lt_add hl0, lt_at hl0, on_updB hl0, on_atU hl0, on_updU hl0, upd_same ha0]; rfl)) (by simp (disch := (apply Apart.mk; decide)) only [go_sem, Nat.reduceAdd, Nat.reduceLT, Nat.reduceMul, Nat.reduceLeDiff, Int.reduceToNat, Int.reduceLT, Int.reduceLE, ha0, on_atB hl0, lt_add hl0, lt_at hl0, on_updB hl0, on_atU hl0, on_updU hl0, upd_same ha0])) (by simp (disch := (apply Apart.mk; decide)) only [go_sem, Nat.reduceAdd, Nat.reduceLT, Nat.reduceMul, Nat.reduceLeDiff, Int.reduceToNat, Int.reduceLT, Int.reduceLE, ha0, on_atB hl0, lt_add hl0, lt_at hl0, on_updB hl0, on_atU hl0, on_updU hl0, upd_same ha0, Try.results51, results_data CT_gives51, resCell, resVal.eq_2, loadOp_sv]) ⟨rfl, on_nil (h := (h.upd l0 (.cells [.row 4 (List.map eB Final1), .row 35 (List.map (eL eEdge) (Edges ++ ([edges]))), .row 9 (List.map eS (ends1 ++ ([r])))]))) (WF.upd hwf hl0 (by simp (disch := (apply Apart.mk; decide)) only [go_sem, Nat.reduceAdd, Nat.reduceLT, Nat.reduceMul, Nat.reduceLeDiff, Int.reduceToNat, Int.reduceLT, Int.reduceLE, ha0, on_atB hl0, lt_add hl0, lt_at hl0, on_updB hl0, on_atU hl0, on_updU hl0, upd_same ha0]))⟩)
      · refine w_block ?_
        refine w_Loop (fun xX : (List TEdge × Int × List Bool × List (List TEdge) × List Str) => ⟨[(0, .cv (.val (.ptr (some (l0, 0))))), (1, .cv (.val (.sl (List.map eS ends)))), (5, .cv (.val (.str (bs r)))), (7, .cv (.row 37 (List.map eEdge xX.1))), (8, .cv (.val (.int .i64 xX.2.1)))], (h.upd l0 (.cells [.row 4 (List.map eB xX.2.2.1), .row 35 (List.map (eL eEdge) xX.2.2.2.1), .row 9 (List.map eS xX.2.2.2.2)])).on []⟩) hr (To.cut (h := (h.upd l0 (.cells [.row 4 (List.map eB m.g.Final), .row 35 (List.map (eL eEdge) m.g.Edges), .row 9 (List.map eS m.ends)]))) (WF.upd hwf hl0 (by simp (disch := (apply Apart.mk; decide)) only [go_sem, Nat.reduceAdd, Nat.reduceLT, Nat.reduceMul, Nat.reduceLeDiff, Int.reduceToNat, Int.reduceLT, Int.reduceLE, ha0, on_atB hl0, lt_add hl0, lt_at hl0, on_updB hl0, on_atU hl0, on_updU hl0, upd_same ha0])) (Nat.le_refl _) (by first | rfl | (simp (disch := (apply Apart.mk; decide)) only [go_sem, Nat.reduceAdd, Nat.reduceLT, Nat.reduceMul, Nat.reduceLeDiff, Int.reduceToNat, Int.reduceLT, Int.reduceLE, ha0, on_atB hl0, lt_add hl0, lt_at hl0, on_updB hl0, on_atU hl0, on_updU hl0, upd_same ha0]; rfl)) (by simp (disch := (apply Apart.mk; decide)) only [go_sem, Nat.reduceAdd, Nat.reduceLT, Nat.reduceMul, Nat.reduceLeDiff, Int.reduceToNat, Int.reduceLT, Int.reduceLE, ha0, on_atB hl0, lt_add hl0, lt_at hl0, on_updB hl0, on_atU hl0, on_updU hl0, upd_same ha0])) (fun W1 xX hr => ?_)
        obtain ⟨edges1, c, Final2, Edges1, ends2⟩ := xX
        dsimp only [scansionref17_maker_state.b1] at hr
        refine w_seq ?_
        refine w_seq ?_
        refine w_region rfl (by simp (disch := (apply Apart.mk; decide)) only [go_sem, Nat.reduceAdd, Nat.reduceLT, Nat.reduceMul, Nat.reduceLeDiff, Int.reduceToNat, Int.reduceLT, Int.reduceLE, ha0, on_atB hl0, lt_add hl0, lt_at hl0, on_updB hl0, on_atU hl0, on_updU hl0, upd_same ha0]; rfl) ?_
        refine w_n ?_
        refine w_condH (by simp (disch := (apply Apart.mk; decide)) only [go_sem, Nat.reduceAdd, Nat.reduceLT, Nat.reduceMul, Nat.reduceLeDiff, Int.reduceToNat, Int.reduceLT, Int.reduceLE, ha0, on_atB hl0, lt_add hl0, lt_at hl0, on_updB hl0, on_atU hl0, on_updU hl0, upd_same ha0]) hr (fun cF10 hr => ?_) (fun cF10 hr => ?_)
        · refine w_skip ?_
          refine w_n ?_
          refine w_seq ?_
          refine w_K (D := (Aft W1 D)) (fun xX : (List TEdge × List Bool × List (List TEdge) × List Str) => ⟨[(0, .cv (.val (.ptr (some (l0, 0))))), (1, .cv (.val (.sl (List.map eS ends)))), (5, .cv (.val (.str (bs r)))), (7, .cv (.row 37 (List.map eEdge xX.1))), (8, .cv (.val (.int .i64 c)))], (h.upd l0 (.cells [.row 4 (List.map eB xX.2.1), .row 35 (List.map (eL eEdge) xX.2.2.1), .row 9 (List.map eS xX.2.2.2)])).on []⟩) (fun xX : (List TEdge × List Bool × List (List TEdge) × List Str) => scansionref17_maker_state.k3 c xX.1 xX.2.1 xX.2.2.1 xX.2.2.2) (fun xX s' hr ht => ?_) ?_
          · obtain ⟨edges2, Final3, Edges2, ends3⟩ := xX
            dsimp only [scansionref17_maker_state.k3] at hr ht
            refine (w_nT ht ?_)
            refine w_region rfl (by simp (disch := (apply Apart.mk; decide)) only [go_sem, Nat.reduceAdd, Nat.reduceLT, Nat.reduceMul, Nat.reduceLeDiff, Int.reduceToNat, Int.reduceLT, Int.reduceLE, ha0, on_atB hl0, lt_add hl0, lt_at hl0, on_updB hl0, on_atU hl0, on_updU hl0, upd_same ha0, cF10]; rfl) ?_
            exact (w_k ⟨(edges2, (IntKind.i64.wrap (c + (1 : Int))), Final3, Edges2, ends3), hr, (To.cut (h := (h.upd l0 (.cells [.row 4 (List.map eB Final3), .row 35 (List.map (eL eEdge) Edges2), .row 9 (List.map eS ends3)]))) (WF.upd hwf hl0 (by simp (disch := (apply Apart.mk; decide)) only [go_sem, Nat.reduceAdd, Nat.reduceLT, Nat.reduceMul, Nat.reduceLeDiff, Int.reduceToNat, Int.reduceLT, Int.reduceLE, ha0, on_atB hl0, lt_add hl0, lt_at hl0, on_updB hl0, on_atU hl0, on_updU hl0, upd_same ha0])) (Nat.le_refl _) (by first | rfl | (simp (disch := (apply Apart.mk; decide)) only [go_sem, Nat.reduceAdd, Nat.reduceLT, Nat.reduceMul, Nat.reduceLeDiff, Int.reduceToNat, Int.reduceLT, Int.reduceLE, ha0, on_atB hl0, lt_add hl0, lt_at hl0, on_updB hl0, on_atU hl0, on_updU hl0, upd_same ha0, cF10]; rfl)) (by simp (disch := (apply Apart.mk; decide)) only [go_sem, Nat.reduceAdd, Nat.reduceLT, Nat.reduceMul, Nat.reduceLeDiff, Int.reduceToNat, Int.reduceLT, Int.reduceLE, ha0, on_atB hl0, lt_add hl0, lt_at hl0, on_updB hl0, on_atU hl0, on_updU hl0, upd_same ha0, cF10]))⟩)
          · refine w_block ?_
            refine w_seq ?_
            refine A_ops ?_
            refine w_upto 3 rfl (by simp (disch := (apply Apart.mk; decide)) only [go_sem, Nat.reduceAdd, Nat.reduceLT, Nat.reduceMul, Nat.reduceLeDiff, Int.reduceToNat, Int.reduceLT, Int.reduceLE, ha0, on_atB hl0, lt_add hl0, lt_at hl0, on_updB hl0, on_atU hl0, on_updU hl0, upd_same ha0]; rfl) ?_
            obtain ⟨r1, eF11, hr⟩ := hr.bind
            refine w_call' (out := ?o_eF11) (hp := ?p_eF11) rfl (by simp (disch := (apply Apart.mk; decide)) only [go_sem, Nat.reduceAdd, Nat.reduceLT, Nat.reduceMul, Nat.reduceLeDiff, Int.reduceToNat, Int.reduceLT, Int.reduceLE, ha0, on_atB hl0, lt_add hl0, lt_at hl0, on_updB hl0, on_atU hl0, on_updU hl0, upd_same ha0, Option.getD_some]; rfl) (by simp (disch := (apply Apart.mk; decide)) only [go_sem, Nat.reduceAdd, Nat.reduceLT, Nat.reduceMul, Nat.reduceLeDiff, Int.reduceToNat, Int.reduceLT, Int.reduceLE, ha0, on_atB hl0, lt_add hl0, lt_at hl0, on_updB hl0, on_atU hl0, on_updU hl0, upd_same ha0, Option.getD_some]; rfl) (by simp (disch := (apply Apart.mk; decide)) only [go_sem, Nat.reduceAdd, Nat.reduceLT, Nat.reduceMul, Nat.reduceLeDiff, Int.reduceToNat, Int.reduceLT, Int.reduceLE, ha0, on_atB hl0, lt_add hl0, lt_at hl0, on_updB hl0, on_atU hl0, on_updU hl0, upd_same ha0, Option.getD_some]; rfl) ?c_eF11 ?d_eF11 ?_
            case c_eF11 => (rw [show ((IntKind.u8.wrap c) : Int) = ((u8 (IntKind.u8.wrap c)).toNat : Int) from u8_wrap.symm]; exact scansionref17_behind_runs ends (u8 (IntKind.u8.wrap c)) eF11)
            case d_eF11 => rfl
            refine w_ops_end (by simp (disch := (apply Apart.mk; decide)) only [go_sem, Nat.reduceAdd, Nat.reduceLT, Nat.reduceMul, Nat.reduceLeDiff, Int.reduceToNat, Int.reduceLT, Int.reduceLE, ha0, on_atB hl0, lt_add hl0, lt_at hl0, on_updB hl0, on_atU hl0, on_updU hl0, upd_same ha0]; rfl) ?_
            refine w_n ?_
            refine w_seq ?_
            refine w_region rfl (by simp (disch := (apply Apart.mk; decide)) only [go_sem, Nat.reduceAdd, Nat.reduceLT, Nat.reduceMul, Nat.reduceLeDiff, Int.reduceToNat, Int.reduceLT, Int.reduceLE, ha0, on_atB hl0, lt_add hl0, lt_at hl0, on_updB hl0, on_atU hl0, on_updU hl0, upd_same ha0, cF10]; rfl) ?_
            refine w_n ?_
            refine w_condH (by simp (disch := (apply Apart.mk; decide)) only [go_sem, Nat.reduceAdd, Nat.reduceLT, Nat.reduceMul, Nat.reduceLeDiff, Int.reduceToNat, Int.reduceLT, Int.reduceLE, ha0, on_atB hl0, lt_add hl0, lt_at hl0, on_updB hl0, on_atU hl0, on_updU hl0, upd_same ha0, cF10]) hr (fun cF12 hr => ?_) (fun cF12 hr => ?_)
            · refine A_ops ?_
              refine w_upto 5 rfl (by simp (disch := (apply Apart.mk; decide)) only [go_sem, Nat.reduceAdd, Nat.reduceLT, Nat.reduceMul, Nat.reduceLeDiff, Int.reduceToNat, Int.reduceLT, Int.reduceLE, ha0, on_atB hl0, lt_add hl0, lt_at hl0, on_updB hl0, on_atU hl0, on_updU hl0, upd_same ha0]; rfl) ?_
              obtain ⟨r2, eF13, hr⟩ := hr.bind
              refine w_call' (out := ?o_eF13) (hp := ?p_eF13) rfl (by simp (disch := (apply Apart.mk; decide)) only [go_sem, Nat.reduceAdd, Nat.reduceLT, Nat.reduceMul, Nat.reduceLeDiff, Int.reduceToNat, Int.reduceLT, Int.reduceLE, ha0, on_atB hl0, lt_add hl0, lt_at hl0, on_updB hl0, on_atU hl0, on_updU hl0, upd_same ha0, Option.getD_some]; rfl) (by simp (disch := (apply Apart.mk; decide)) only [go_sem, Nat.reduceAdd, Nat.reduceLT, Nat.reduceMul, Nat.reduceLeDiff, Int.reduceToNat, Int.reduceLT, Int.reduceLE, ha0, on_atB hl0, lt_add hl0, lt_at hl0, on_updB hl0, on_atU hl0, on_updU hl0, upd_same ha0, Option.getD_some]; rfl) (by simp (disch := (apply Apart.mk; decide)) only [go_sem, Nat.reduceAdd, Nat.reduceLT, Nat.reduceMul, Nat.reduceLeDiff, Int.reduceToNat, Int.reduceLT, Int.reduceLE, ha0, on_atB hl0, lt_add hl0, lt_at hl0, on_updB hl0, on_atU hl0, on_updU hl0, upd_same ha0, Option.getD_some]; rfl) ?c_eF13 ?d_eF13 ?_
              case c_eF13 => (refine ih (Tscansionref17_maker.mk (TGraph.mk Final2 Edges1) ends2) r1 (l0) ?_ eF13; (simp (disch := (apply Apart.mk; decide)) only [go_sem, Nat.reduceAdd, Nat.reduceLT, Nat.reduceMul, Nat.reduceLeDiff, Int.reduceToNat, Int.reduceLT, Int.reduceLE, ha0, on_atB hl0, lt_add hl0, lt_at hl0, on_updB hl0, on_atU hl0, on_updU hl0, upd_same ha0]))
              case d_eF13 => rfl
              obtain ⟨nF14, hr⟩ := hr.room
              refine w_ops_end (by simp (disch := (apply Apart.mk; decide)) only [go_sem, Nat.reduceAdd, Nat.reduceLT, Nat.reduceMul, Nat.reduceLeDiff, Int.reduceToNat, Int.reduceLT, Int.reduceLE, ha0, on_atB hl0, lt_add hl0, lt_at hl0, on_updB hl0, on_atU hl0, on_updU hl0, upd_same ha0, nF14]; rfl) ?_
              exact (w_bn (w_k ⟨((edges1 ++ ([(TEdge.mk (u8 (IntKind.u8.wrap c)) r2.1)])), r2.2.g.Final, r2.2.g.Edges, r2.2.ends), hr, (To.cut (h := (h.upd l0 (.cells [.row 4 (List.map eB r2.2.g.Final), .row 35 (List.map (eL eEdge) r2.2.g.Edges), .row 9 (List.map eS r2.2.ends)]))) (WF.upd hwf hl0 (by simp (disch := (apply Apart.mk; decide)) only [go_sem, Nat.reduceAdd, Nat.reduceLT, Nat.reduceMul, Nat.reduceLeDiff, Int.reduceToNat, Int.reduceLT, Int.reduceLE, ha0, on_atB hl0, lt_add hl0, lt_at hl0, on_updB hl0, on_atU hl0, on_updU hl0, upd_same ha0])) (Nat.le_refl _) (by first | rfl | (simp (disch := (apply Apart.mk; decide)) only [go_sem, Nat.reduceAdd, Nat.reduceLT, Nat.reduceMul, Nat.reduceLeDiff, Int.reduceToNat, Int.reduceLT, Int.reduceLE, ha0, on_atB hl0, lt_add hl0, lt_at hl0, on_updB hl0, on_atU hl0, on_updU hl0, upd_same ha0, cF10, cF12]; rfl)) (by simp (disch := (apply Apart.mk; decide)) only [go_sem, Nat.reduceAdd, Nat.reduceLT, Nat.reduceMul, Nat.reduceLeDiff, Int.reduceToNat, Int.reduceLT, Int.reduceLE, ha0, on_atB hl0, lt_add hl0, lt_at hl0, on_updB hl0, on_atU hl0, on_updU hl0, upd_same ha0, cF10, cF12]))⟩))
            · refine w_skip ?_
              exact (w_bn (w_k ⟨(edges1, Final2, Edges1, ends2), hr, (To.cut (h := (h.upd l0 (.cells [.row 4 (List.map eB Final2), .row 35 (List.map (eL eEdge) Edges1), .row 9 (List.map eS ends2)]))) (WF.upd hwf hl0 (by simp (disch := (apply Apart.mk; decide)) only [go_sem, Nat.reduceAdd, Nat.reduceLT, Nat.reduceMul, Nat.reduceLeDiff, Int.reduceToNat, Int.reduceLT, Int.reduceLE, ha0, on_atB hl0, lt_add hl0, lt_at hl0, on_updB hl0, on_atU hl0, on_updU hl0, upd_same ha0])) (Nat.le_refl _) (by first | rfl | (simp (disch := (apply Apart.mk; decide)) only [go_sem, Nat.reduceAdd, Nat.reduceLT, Nat.reduceMul, Nat.reduceLeDiff, Int.reduceToNat, Int.reduceLT, Int.reduceLE, ha0, on_atB hl0, lt_add hl0, lt_at hl0, on_updB hl0, on_atU hl0, on_updU hl0, upd_same ha0, cF10, cF12]; rfl)) (by simp (disch := (apply Apart.mk; decide)) only [go_sem, Nat.reduceAdd, Nat.reduceLT, Nat.reduceMul, Nat.reduceLeDiff, Int.reduceToNat, Int.reduceLT, Int.reduceLE, ha0, on_atB hl0, lt_add hl0, lt_at hl0, on_updB hl0, on_atU hl0, on_updU hl0, upd_same ha0, cF10, cF12]))⟩))
        · refine w_exit ?_
          exact (w_te (w_te (w_bx (w_k ⟨(edges1, Final2, Edges1, ends2), (hr).map, (To.cut (h := (h.upd l0 (.cells [.row 4 (List.map eB Final2), .row 35 (List.map (eL eEdge) Edges1), .row 9 (List.map eS ends2)]))) (WF.upd hwf hl0 (by simp (disch := (apply Apart.mk; decide)) only [go_sem, Nat.reduceAdd, Nat.reduceLT, Nat.reduceMul, Nat.reduceLeDiff, Int.reduceToNat, Int.reduceLT, Int.reduceLE, ha0, on_atB hl0, lt_add hl0, lt_at hl0, on_updB hl0, on_atU hl0, on_updU hl0, upd_same ha0])) (Nat.le_refl _) (by first | rfl | (simp (disch := (apply Apart.mk; decide)) only [go_sem, Nat.reduceAdd, Nat.reduceLT, Nat.reduceMul, Nat.reduceLeDiff, Int.reduceToNat, Int.reduceLT, Int.reduceLE, ha0, on_atB hl0, lt_add hl0, lt_at hl0, on_updB hl0, on_atU hl0, on_updU hl0, upd_same ha0, cF10]; rfl)) (by simp (disch := (apply Apart.mk; decide)) only [go_sem, Nat.reduceAdd, Nat.reduceLT, Nat.reduceMul, Nat.reduceLeDiff, Int.reduceToNat, Int.reduceLT, Int.reduceLE, ha0, on_atB hl0, lt_add hl0, lt_at hl0, on_updB hl0, on_atU hl0, on_updU hl0, upd_same ha0, cF10]))⟩))))
    · refine w_block ?_
      refine w_Loop (fun xX : Int => ⟨[(0, .cv (.val (.ptr (some (l0, 0))))), (1, .cv (.val (.sl (List.map eS ends)))), (5, .cv (.val (.str (bs r)))), (6, .cv (.val (.int .i64 xX)))], h.on []⟩) hr (To.cut hwf (Nat.le_refl _) (by first | rfl | (simp (disch := (apply Apart.mk; decide)) only [go_sem, Nat.reduceAdd, Nat.reduceLT, Nat.reduceMul, Nat.reduceLeDiff, Int.reduceToNat, Int.reduceLT, Int.reduceLE, ha0, on_atB hl0, lt_add hl0, lt_at hl0, on_updB hl0, on_atU hl0, on_updU hl0, upd_same ha0]; rfl)) (by simp (disch := (apply Apart.mk; decide)) only [go_sem, Nat.reduceAdd, Nat.reduceLT, Nat.reduceMul, Nat.reduceLeDiff, Int.reduceToNat, Int.reduceLT, Int.reduceLE, ha0, on_atB hl0, lt_add hl0, lt_at hl0, on_updB hl0, on_atU hl0, on_updU hl0, upd_same ha0])) (fun W2 xX hr => ?_)
      obtain ⟨i, rfl⟩ : ∃ z, z = xX := ⟨xX, rfl⟩
      dsimp only [scansionref17_maker_state.b2] at hr
      refine w_seq ?_
      refine w_seq ?_
      refine w_region rfl (by simp (disch := (apply Apart.mk; decide)) only [go_sem, Nat.reduceAdd, Nat.reduceLT, Nat.reduceMul, Nat.reduceLeDiff, Int.reduceToNat, Int.reduceLT, Int.reduceLE, ha0, on_atB hl0, lt_add hl0, lt_at hl0, on_updB hl0, on_atU hl0, on_updU hl0, upd_same ha0]; rfl) ?_
      refine w_n ?_
      refine w_condH (by simp (disch := (apply Apart.mk; decide)) only [go_sem, Nat.reduceAdd, Nat.reduceLT, Nat.reduceMul, Nat.reduceLeDiff, Int.reduceToNat, Int.reduceLT, Int.reduceLE, ha0, on_atB hl0, lt_add hl0, lt_at hl0, on_updB hl0, on_atU hl0, on_updU hl0, upd_same ha0]) hr (fun cF15 hr => ?_) (fun cF15 hr => ?_)
      · refine w_skip ?_
        refine w_n ?_
        refine w_seq ?_
        refine w_block ?_
        refine w_seq ?_
        obtain ⟨s1, nF16, eF17, gF18, hr⟩ := hr.idx
        refine w_region rfl (by simp (disch := (apply Apart.mk; decide)) only [go_sem, Nat.reduceAdd, Nat.reduceLT, Nat.reduceMul, Nat.reduceLeDiff, Int.reduceToNat, Int.reduceLT, Int.reduceLE, ha0, on_atB hl0, lt_add hl0, lt_at hl0, on_updB hl0, on_atU hl0, on_updU hl0, upd_same ha0, nF16, eF17, gF18, cF15]; rfl) ?_
        refine w_n ?_
        refine w_condH (by simp (disch := (apply Apart.mk; decide)) only [go_sem, Nat.reduceAdd, Nat.reduceLT, Nat.reduceMul, Nat.reduceLeDiff, Int.reduceToNat, Int.reduceLT, Int.reduceLE, ha0, on_atB hl0, lt_add hl0, lt_at hl0, on_updB hl0, on_atU hl0, on_updU hl0, upd_same ha0, cF15]) hr (fun cF19 hr => ?_) (fun cF19 hr => ?_)
        · refine w_seq ?_
          refine w_region rfl (by simp (disch := (apply Apart.mk; decide)) only [go_sem, Nat.reduceAdd, Nat.reduceLT, Nat.reduceMul, Nat.reduceLeDiff, Int.reduceToNat, Int.reduceLT, Int.reduceLE, ha0, on_atB hl0, lt_add hl0, lt_at hl0, on_updB hl0, on_atU hl0, on_updU hl0, upd_same ha0, cF15, cF19]; rfl) ?_
          refine w_n ?_
          refine w_ret ?_
          obtain rfl := hD _ hr
          exact (w_br (w_tr (w_tr (w_br (w_tr (w_tr (w_endR (To.cut (os' := []) (sl := [(4, .cv (.val (.int .i64 i)))]) (h := (h.upd l0 (.cells [.row 4 (List.map eB m.g.Final), .row 35 (List.map (eL eEdge) m.g.Edges), .row 9 (List.map eS m.ends)]))) (WF.upd hwf hl0 (by simp (disch := (apply Apart.mk; decide)) only [go_sem, Nat.reduceAdd, Nat.reduceLT, Nat.reduceMul, Nat.reduceLeDiff, Int.reduceToNat, Int.reduceLT, Int.reduceLE, ha0, on_atB hl0, lt_add hl0, lt_at hl0, on_updB hl0, on_atU hl0, on_updU hl0, upd_same ha0])) (Nat.le_refl _) (by first | rfl | (simp (disch := (apply Apart.mk; decide)) only [go_sem, Nat.reduceAdd, Nat.reduceLT, Nat.reduceMul, Nat.reduceLeDiff, Int.reduceToNat, Int.reduceLT, Int.reduceLE, ha0, on_atB hl0, lt_add hl0, lt_at hl0, on_updB hl0, on_atU hl0, on_updU hl0, upd_same ha0, cF15, cF19]; rfl)) (by simp (disch := (apply Apart.mk; decide)) only [go_sem, Nat.reduceAdd, Nat.reduceLT, Nat.reduceMul, Nat.reduceLeDiff, Int.reduceToNat, Int.reduceLT, Int.reduceLE, ha0, on_atB hl0, lt_add hl0, lt_at hl0, on_updB hl0, on_atU hl0, on_updU hl0, upd_same ha0, cF15, cF19])) (by simp (disch := (apply Apart.mk; decide)) only [go_sem, Nat.reduceAdd, Nat.reduceLT, Nat.reduceMul, Nat.reduceLeDiff, Int.reduceToNat, Int.reduceLT, Int.reduceLE, ha0, on_atB hl0, lt_add hl0, lt_at hl0, on_updB hl0, on_atU hl0, on_updU hl0, upd_same ha0, Try.results51, results_data CT_gives51, resCell, resVal.eq_2, loadOp_sv, cF15, cF19]) ⟨rfl, on_nil (h := (h.upd l0 (.cells [.row 4 (List.map eB m.g.Final), .row 35 (List.map (eL eEdge) m.g.Edges), .row 9 (List.map eS m.ends)]))) (WF.upd hwf hl0 (by simp (disch := (apply Apart.mk; decide)) only [go_sem, Nat.reduceAdd, Nat.reduceLT, Nat.reduceMul, Nat.reduceLeDiff, Int.reduceToNat, Int.reduceLT, Int.reduceLE, ha0, on_atB hl0, lt_add hl0, lt_at hl0, on_updB hl0, on_atU hl0, on_updU hl0, upd_same ha0]))⟩)))))))
        · refine w_skip ?_
          refine (w_bn (w_n ?_))
          refine w_region rfl (by simp (disch := (apply Apart.mk; decide)) only [go_sem, Nat.reduceAdd, Nat.reduceLT, Nat.reduceMul, Nat.reduceLeDiff, Int.reduceToNat, Int.reduceLT, Int.reduceLE, ha0, on_atB hl0, lt_add hl0, lt_at hl0, on_updB hl0, on_atU hl0, on_updU hl0, upd_same ha0, cF15, cF19]; rfl) ?_
          exact (w_k ⟨(IntKind.i64.wrap (i + (1 : Int))), hr, (To.cut hwf (Nat.le_refl _) (by first | rfl | (simp (disch := (apply Apart.mk; decide)) only [go_sem, Nat.reduceAdd, Nat.reduceLT, Nat.reduceMul, Nat.reduceLeDiff, Int.reduceToNat, Int.reduceLT, Int.reduceLE, ha0, on_atB hl0, lt_add hl0, lt_at hl0, on_updB hl0, on_atU hl0, on_updU hl0, upd_same ha0, cF15, cF19]; rfl)) (by simp (disch := (apply Apart.mk; decide)) only [go_sem, Nat.reduceAdd, Nat.reduceLT, Nat.reduceMul, Nat.reduceLeDiff, Int.reduceToNat, Int.reduceLT, Int.reduceLE, ha0, on_atB hl0, lt_add hl0, lt_at hl0, on_updB hl0, on_atU hl0, on_updU hl0, upd_same ha0, cF15, cF19]))⟩)
      · refine w_exit ?_
        exact (w_te (w_te (w_bx (w_k ⟨(), (hr).map, (To.cut hwf (Nat.le_refl _) (by first | rfl | (simp (disch := (apply Apart.mk; decide)) only [go_sem, Nat.reduceAdd, Nat.reduceLT, Nat.reduceMul, Nat.reduceLeDiff, Int.reduceToNat, Int.reduceLT, Int.reduceLE, ha0, on_atB hl0, lt_add hl0, lt_at hl0, on_updB hl0, on_atU hl0, on_updU hl0, upd_same ha0, cF15]; rfl)) (by simp (disch := (apply Apart.mk; decide)) only [go_sem, Nat.reduceAdd, Nat.reduceLT, Nat.reduceMul, Nat.reduceLeDiff, Int.reduceToNat, Int.reduceLT, Int.reduceLE, ha0, on_atB hl0, lt_add hl0, lt_at hl0, on_updB hl0, on_atU hl0, on_updU hl0, upd_same ha0, cF15]))⟩))))
theorem scansionref17_maker_state_runs (m : Tscansionref17_maker) (ends : List Str) (l0 : Nat) {h : Heap} (ha0 : h.at_ l0 = some (.cells [.row 4 (List.map eB m.g.Final), .row 35 (List.map (eL eEdge) m.g.Edges), .row 9 (List.map eS m.ends)])) {a : (Int × Tscansionref17_maker)} (e : scansionref17_maker_state m ends = some a) :
    Runs CT 51 [.cv (.val (.ptr (some (l0, 0)))), .cv (.val (.sl (List.map eS ends)))] h fun o h' => o = [.cv (.val (.int .i64 a.1))] ∧ h' = (h.upd l0 (.cells [.row 4 (List.map eB a.2.g.Final), .row 35 (List.map (eL eEdge) a.2.g.Edges), .row 9 (List.map eS a.2.ends)])) := by
  obtain ⟨n, hn⟩ := lim_some e
  exact scansionref17_maker_state_runs_r n m ends l0 ha0 (hn n (Nat.le_refl n))
end Go.Val

/- part GW17 -/
/- scansion/scansionref17.Build runs as it is read off. -/
namespace Go.Val
set_option linter.unusedVariables false
set_option linter.unusedSimpArgs false
set_option maxRecDepth 20000
open Go.Proofs
theorem scansionref17_Build_runs (words : List Str) {h : Heap} {a : (TGraph × Int)} (e : scansionref17_Build words = some a) :
    Runs CT 17 [.cv (.val (.sl (List.map eS words)))] h fun o h' => o = [.cv (.val (.agg [.sl (List.map eB a.1.Final), .sl (List.map (eL eEdge) a.1.Edges)])), .cv (.val (.int .i64 a.2))] ∧ h' = h := by
  refine Runs.start Try.f17 _ Try.func17 rfl (by rw [Try.ntmps17]; simp) (by rfl) (by rfl) (fun hwf hu => ?_)
  obtain ⟨D, hD, hr⟩ : ∃ D : (TGraph × Int) → Prop, (∀ z, D z → z = a) ∧ Holds (scansionref17_Build words) D := ⟨fun z => z = a, fun _ h => h, Holds.intro e rfl⟩
  dsimp only [scansionref17_Build] at hr
  change wpCode _ _ _ _ _ ⟨[(0, .cv (.val (.sl (List.map eS words))))], h.on []⟩
  refine w_seq ?_
  refine A_region ?_
  refine w_n ?_
  refine w_seq ?_
  refine A_ops ?_
  refine A_upto 1 ?_
  obtain ⟨r, eF1, hr⟩ := hr.bind
  refine A_call (out := ?o_eF1) (hp := ?p_eF1) ?c_eF1 ?d_eF1 ?_
  case c_eF1 => exact scansionref17_right_runs words eF1
  case d_eF1 => rfl
  refine A_ops_end ?_
  refine w_n ?_
  refine w_seq ?_
  refine w_seq ?_
  refine A_region ?_
  refine w_n ?_
  refine A_condH hr (fun cF2 hr => ?_) (fun cF2 hr => ?_)
  · refine w_seq ?_
    refine A_region ?_
    refine w_n ?_
    refine w_ret ?_
    obtain rfl := hD _ hr
    exact (w_tr (w_endRD (A_cut (os' := [some (.cells [.val (.sl (List.map eB ([] : List Bool))), .val (.sl (List.map (eL eEdge) ([] : List (List TEdge))))])]) (sl := [(2, .cv (.val (.ptr (some (h.n + 0, 0))))), (3, .cv (.val (.int .i64 (1 : Int))))]) hwf) (by simp (disch := (apply Apart.mk; decide)) only [go_sem, Nat.reduceAdd, Nat.reduceLT, Nat.reduceMul, Nat.reduceLeDiff, Int.reduceToNat, Int.reduceLT, Int.reduceLE, Try.results17, results_data CT_gives17, resCell, resVal.eq_2, loadOp_sv, cF2]) (Drops.on (os := [some (.cells [.val (.sl (List.map eB ([] : List Bool))), .val (.sl (List.map (eL eEdge) ([] : List (List TEdge))))])]) (os' := []) hwf (Nat.le_refl _) (by simp (disch := (apply Apart.mk; decide)) only [go_sem, Nat.reduceAdd, Nat.reduceLT, Nat.reduceMul, Nat.reduceLeDiff, Int.reduceToNat, Int.reduceLT, Int.reduceLE, cF2])) ⟨rfl, on_nil hwf⟩))
  · refine w_skip ?_
    refine w_n ?_
    refine w_seq ?_
    refine A_region ?_
    refine w_n ?_
    refine w_seq ?_
    refine w_toR (s1 := ⟨[(0, .cv (.val (.sl (List.map eS words)))), (2, .cv (.val (.ptr (some (h.n + 0, 0))))), (5, .cv (.val (.ptr (some (h.n + 1, 0)))))], h.on [some (.cells [.nil, .nil]), some (.cells [.row 4 (List.map eB []), .row 35 (List.map (eL eEdge) []), .row 9 (List.map eS [])])]⟩) (A_cut hwf) ?_
    refine A_ops ?_
    refine A_upto 2 ?_
    obtain ⟨r1, eF3, hr⟩ := hr.bind
    refine A_call (out := ?o_eF3) (hp := ?p_eF3) ?c_eF3 ?d_eF3 ?_
    case c_eF3 => (refine scansionref17_maker_state_runs (Tscansionref17_maker.mk (TGraph.mk [] []) []) words (h.n + 1) ?_ eF3; (simp (disch := (apply Apart.mk; decide)) only [go_sem, Nat.reduceAdd, Nat.reduceLT, Nat.reduceMul, Nat.reduceLeDiff, Int.reduceToNat, Int.reduceLT, Int.reduceLE]))
    case d_eF3 => rfl
    refine w_ops_nil ?_
    refine w_n ?_
    refine w_seq ?_
    refine w_toR (.fix _ _ (.cell (h.n + 1) 0) 4 _ (by simp (disch := (apply Apart.mk; decide)) only [go_sem, Nat.reduceAdd, Nat.reduceLT, Nat.reduceMul, Nat.reduceLeDiff, Int.reduceToNat, Int.reduceLT, Int.reduceLE, cF2]; rfl) (.refl _)) ?_
    refine w_toR (.fix _ _ (.cell (h.n + 1) 1) 35 _ (by simp (disch := (apply Apart.mk; decide)) only [go_sem, Nat.reduceAdd, Nat.reduceLT, Nat.reduceMul, Nat.reduceLeDiff, Int.reduceToNat, Int.reduceLT, Int.reduceLE, cF2]; rfl) (.refl _)) ?_
    refine A_region ?_
    refine w_n ?_
    refine w_ret ?_
    obtain rfl := hD _ hr
    exact (w_endRD (A_cut (os' := [some (.cells [.val (.sl (List.map eB r1.2.g.Final)), .val (.sl (List.map (eL eEdge) r1.2.g.Edges))])]) (sl := [(2, .cv (.val (.ptr (some (h.n + 0, 0))))), (3, .cv (.val (.int .i64 (0 : Int))))]) hwf) (by simp (disch := (apply Apart.mk; decide)) only [go_sem, Nat.reduceAdd, Nat.reduceLT, Nat.reduceMul, Nat.reduceLeDiff, Int.reduceToNat, Int.reduceLT, Int.reduceLE, Try.results17, results_data CT_gives17, resCell, resVal.eq_2, loadOp_sv, cF2]) (Drops.on (os := [some (.cells [.val (.sl (List.map eB r1.2.g.Final)), .val (.sl (List.map (eL eEdge) r1.2.g.Edges))])]) (os' := []) hwf (Nat.le_refl _) (by simp (disch := (apply Apart.mk; decide)) only [go_sem, Nat.reduceAdd, Nat.reduceLT, Nat.reduceMul, Nat.reduceLeDiff, Int.reduceToNat, Int.reduceLT, Int.reduceLE, cF2])) ⟨rfl, on_nil hwf⟩)
end Go.Val

/- part GW21 -/
/- scansion/scansionlaw18.awake runs as it is read off. -/
namespace Go.Val
set_option linter.unusedVariables false
set_option linter.unusedSimpArgs false
set_option maxRecDepth 20000
open Go.Proofs
theorem scansionlaw18_awake_runs {h : Heap} {a : Bool} (e : scansionlaw18_awake = some a) :
    Runs CT 21 [] h fun o h' => o = [.cv (.val (.bool a))] ∧ h' = h := by
  refine Runs.start Try.f21 _ Try.func21 rfl (by rw [Try.ntmps21]; simp) (by rfl) (by rfl) (fun hwf hu => ?_)
  obtain ⟨D, hD, hr⟩ : ∃ D : Bool → Prop, (∀ z, D z → z = a) ∧ Holds (scansionlaw18_awake) D := ⟨fun z => z = a, fun _ h => h, Holds.intro e rfl⟩
  dsimp only [scansionlaw18_awake] at hr
  change wpCode _ _ _ _ _ ⟨[], h.on []⟩
  refine w_seq ?_
  refine A_region ?_
  refine w_n ?_
  refine w_seq ?_
  refine A_ops ?_
  refine A_upto 1 ?_
  obtain ⟨r, eF1, hr⟩ := hr.bind
  refine A_call (out := ?o_eF1) (hp := ?p_eF1) ?c_eF1 ?d_eF1 ?_
  case c_eF1 => exact scansionref17_Build_runs ([([97, 98] : Str), ([99, 98] : Str)]) eF1
  case d_eF1 => rfl
  refine A_ops_end ?_
  refine w_n ?_
  refine w_seq ?_
  refine A_ops ?_
  refine A_upto 1 ?_
  obtain ⟨r1, eF2, hr⟩ := hr.bind
  try dsimp only at hr
  rcases xF12 : r1.1 with _ | y
  · rw [xF12] at hr
    dsimp only at hr
    refine A_call (out := ?o_eF2a) (hp := ?p_eF2a) ?c_eF2a ?d_eF2a ?_
    case c_eF2a => exact darray_Pack_runs_none r.1 eF2 xF12
    case d_eF2a => rfl
    refine A_ops_end ?_
    refine w_n ?_
    refine w_joinR (sj := ⟨[(0, .cv (.val (.bool false)))], h.on []⟩) (A_ops ?_) ?_
    · refine A_upto 3 ?_
      rcases Bool.eq_false_or_eq_true (r1.2 == (0 : Int)) with cF3 | cF3
      · refine A_upto 5 ?_
        refine A_off ?_
        refine A_upto 4 ?_
        refine A_off ?_
        refine A_upto 6 ?_
        refine A_off ?_
        refine A_upto 1 ?_
        refine A_off ?_
        refine A_ops_end ?_
        exact w_k (A_cut hwf)
      · refine A_upto 5 ?_
        refine A_off ?_
        refine A_upto 4 ?_
        refine A_off ?_
        refine A_upto 6 ?_
        refine A_off ?_
        refine A_upto 1 ?_
        refine A_off ?_
        refine A_ops_end ?_
        exact w_k (A_cut hwf)
    refine w_ret ?_
    obtain rfl := hD _ hr
    exact (A_endR (A_cut (os' := []) (sl := [(0, .cv (.val (.bool false)))]) hwf) ⟨rfl, on_nil hwf⟩)
  · rw [xF12] at hr
    dsimp only at hr
    refine A_call (out := ?o_eF2b) (hp := ?p_eF2b) ?c_eF2b ?d_eF2b ?_
    case c_eF2b => exact darray_Pack_runs_some r.1 eF2 xF12
    case d_eF2b => rfl
    refine A_ops_end ?_
    refine w_n ?_
    obtain ⟨v, vF11, hr⟩ := hr.bind
    refine w_joinR (sj := ⟨[(0, .cv (.val (.bool v)))], h.on []⟩) (A_ops ?_) ?_
    · have hr := Holds.intro (D := fun z => z = v) vF11 rfl
      refine A_upto 3 ?_
      rcases hr.ite with ⟨cF4, hr⟩ | ⟨cF4, hr⟩
      · refine A_upto 5 ?_
        obtain ⟨r2, eF5, hr⟩ := hr.bind
        refine w_call' (out := ?o_eF5) (hp := ?p_eF5) (by simp (disch := (apply Apart.mk; decide)) only [go_sem, Nat.reduceAdd, Nat.reduceLT, Nat.reduceMul, Nat.reduceLeDiff, Int.reduceToNat, Int.reduceLT, Int.reduceLE, Option.getD_some, cF4]) (by simp (disch := (apply Apart.mk; decide)) only [go_sem, Nat.reduceAdd, Nat.reduceLT, Nat.reduceMul, Nat.reduceLeDiff, Int.reduceToNat, Int.reduceLT, Int.reduceLE, Option.getD_some, cF4]; rfl) (by simp (disch := (apply Apart.mk; decide)) only [go_sem, Nat.reduceAdd, Nat.reduceLT, Nat.reduceMul, Nat.reduceLeDiff, Int.reduceToNat, Int.reduceLT, Int.reduceLE, Option.getD_some, cF4]; rfl) (by simp (disch := (apply Apart.mk; decide)) only [go_sem, Nat.reduceAdd, Nat.reduceLT, Nat.reduceMul, Nat.reduceLeDiff, Int.reduceToNat, Int.reduceLT, Int.reduceLE, Option.getD_some, cF4]; rfl) ?c_eF5 ?d_eF5 ?_
        case c_eF5 => (refine darray_Array_Start_runs y (h.n + 2) ?_ eF5; (simp (disch := (apply Apart.mk; decide)) only [go_sem, Nat.reduceAdd, Nat.reduceLT, Nat.reduceMul, Nat.reduceLeDiff, Int.reduceToNat, Int.reduceLT, Int.reduceLE]))
        case d_eF5 => rfl
        refine A_upto 3 ?_
        rcases hr.ite with ⟨cF6, hr⟩ | ⟨cF6, hr⟩
        · refine A_upto 1 ?_
          obtain ⟨r3, eF7, hr⟩ := hr.bind
          refine w_call' (out := ?o_eF7) (hp := ?p_eF7) (by simp (disch := (apply Apart.mk; decide)) only [go_sem, Nat.reduceAdd, Nat.reduceLT, Nat.reduceMul, Nat.reduceLeDiff, Int.reduceToNat, Int.reduceLT, Int.reduceLE, Option.getD_some, cF4, cF6]) (by simp (disch := (apply Apart.mk; decide)) only [go_sem, Nat.reduceAdd, Nat.reduceLT, Nat.reduceMul, Nat.reduceLeDiff, Int.reduceToNat, Int.reduceLT, Int.reduceLE, Option.getD_some, cF4, cF6]; rfl) (by simp (disch := (apply Apart.mk; decide)) only [go_sem, Nat.reduceAdd, Nat.reduceLT, Nat.reduceMul, Nat.reduceLeDiff, Int.reduceToNat, Int.reduceLT, Int.reduceLE, Option.getD_some, cF4, cF6]; rfl) (by simp (disch := (apply Apart.mk; decide)) only [go_sem, Nat.reduceAdd, Nat.reduceLT, Nat.reduceMul, Nat.reduceLeDiff, Int.reduceToNat, Int.reduceLT, Int.reduceLE, Option.getD_some, cF4, cF6]; rfl) ?c_eF7 ?d_eF7 ?_
          case c_eF7 => (refine darray_Array_Words_runs y (h.n + 2) ?_ eF7; (simp (disch := (apply Apart.mk; decide)) only [go_sem, Nat.reduceAdd, Nat.reduceLT, Nat.reduceMul, Nat.reduceLeDiff, Int.reduceToNat, Int.reduceLT, Int.reduceLE]))
          case d_eF7 => rfl
          refine A_upto 3 ?_
          rcases hr.ite with ⟨cF8, hr⟩ | ⟨cF8, hr⟩
          · refine A_upto 3 ?_
            obtain ⟨r4, eF9, hr⟩ := hr.bind
            refine w_call' (out := ?o_eF9) (hp := ?p_eF9) (by simp (disch := (apply Apart.mk; decide)) only [go_sem, Nat.reduceAdd, Nat.reduceLT, Nat.reduceMul, Nat.reduceLeDiff, Int.reduceToNat, Int.reduceLT, Int.reduceLE, Option.getD_some, cF4, cF6, cF8]) (by simp (disch := (apply Apart.mk; decide)) only [go_sem, Nat.reduceAdd, Nat.reduceLT, Nat.reduceMul, Nat.reduceLeDiff, Int.reduceToNat, Int.reduceLT, Int.reduceLE, Option.getD_some, cF4, cF6, cF8]; rfl) (by simp (disch := (apply Apart.mk; decide)) only [go_sem, Nat.reduceAdd, Nat.reduceLT, Nat.reduceMul, Nat.reduceLeDiff, Int.reduceToNat, Int.reduceLT, Int.reduceLE, Option.getD_some, cF4, cF6, cF8]; rfl) (by simp (disch := (apply Apart.mk; decide)) only [go_sem, Nat.reduceAdd, Nat.reduceLT, Nat.reduceMul, Nat.reduceLeDiff, Int.reduceToNat, Int.reduceLT, Int.reduceLE, Option.getD_some, cF4, cF6, cF8]; rfl) ?c_eF9 ?d_eF9 ?_
            case c_eF9 => (refine darray_Array_Prefixes_runs y ([(u8 (97 : Int)), (u8 (98 : Int)), (u8 (99 : Int))]) (h.n + 2) ?_ eF9; (simp (disch := (apply Apart.mk; decide)) only [go_sem, Nat.reduceAdd, Nat.reduceLT, Nat.reduceMul, Nat.reduceLeDiff, Int.reduceToNat, Int.reduceLT, Int.reduceLE]))
            case d_eF9 => rfl
            refine A_upto 1 ?_
            obtain ⟨r5, eF10, hr⟩ := hr.bind
            refine w_call' (out := ?o_eF10) (hp := ?p_eF10) (by simp (disch := (apply Apart.mk; decide)) only [go_sem, Nat.reduceAdd, Nat.reduceLT, Nat.reduceMul, Nat.reduceLeDiff, Int.reduceToNat, Int.reduceLT, Int.reduceLE, Option.getD_some, cF4, cF6, cF8]) (by simp (disch := (apply Apart.mk; decide)) only [go_sem, Nat.reduceAdd, Nat.reduceLT, Nat.reduceMul, Nat.reduceLeDiff, Int.reduceToNat, Int.reduceLT, Int.reduceLE, Option.getD_some, cF4, cF6, cF8]; rfl) (by simp (disch := (apply Apart.mk; decide)) only [go_sem, Nat.reduceAdd, Nat.reduceLT, Nat.reduceMul, Nat.reduceLeDiff, Int.reduceToNat, Int.reduceLT, Int.reduceLE, Option.getD_some, cF4, cF6, cF8]; rfl) (by simp (disch := (apply Apart.mk; decide)) only [go_sem, Nat.reduceAdd, Nat.reduceLT, Nat.reduceMul, Nat.reduceLeDiff, Int.reduceToNat, Int.reduceLT, Int.reduceLE, Option.getD_some, cF4, cF6, cF8]; rfl) ?c_eF10 ?d_eF10 ?_
            case c_eF10 => exact scansionref01_SameInts_runs r4 ([(2 : Int)]) eF10
            case d_eF10 => rfl
            refine A_ops_end ?_
            obtain rfl : _ = v := hr
            exact w_k (A_cut hwf)
          · refine A_upto 3 ?_
            refine A_off ?_
            refine A_upto 1 ?_
            refine A_off ?_
            refine A_ops_end ?_
            obtain rfl : _ = v := hr
            exact w_k (A_cut hwf)
        · refine A_upto 1 ?_
          refine A_off ?_
          refine A_upto 6 ?_
          refine A_off ?_
          refine A_upto 1 ?_
          refine A_off ?_
          refine A_ops_end ?_
          obtain rfl : _ = v := hr
          exact w_k (A_cut hwf)
      · refine A_upto 5 ?_
        refine A_off ?_
        refine A_upto 4 ?_
        refine A_off ?_
        refine A_upto 6 ?_
        refine A_off ?_
        refine A_upto 1 ?_
        refine A_off ?_
        refine A_ops_end ?_
        obtain rfl : _ = v := hr
        exact w_k (A_cut hwf)
    refine w_ret ?_
    obtain rfl := hD _ hr
    exact (A_endR (A_cut (os' := []) (sl := [(0, .cv (.val (.bool v)))]) hwf) ⟨rfl, on_nil hwf⟩)
end Go.Val

/- part GW11 -/
/- scansion/scansionlaw18.DarrayPacks runs as it is read off. -/
namespace Go.Val
set_option linter.unusedVariables false
set_option linter.unusedSimpArgs false
set_option maxRecDepth 20000
open Go.Proofs
theorem scansionlaw18_DarrayPacks_runs (g : TGraph) (b : List UInt8) (s : Int) {h : Heap} {a : Bool} (e : scansionlaw18_DarrayPacks g b s = some a) :
    Runs CT 11 [.cv (.val (.agg [.sl (List.map eB g.Final), .sl (List.map (eL eEdge) g.Edges)])), .cv (.val (.sl (List.map eU b))), .cv (.val (.int .i64 s))] h fun o h' => o = [.cv (.val (.bool a))] ∧ h' = h := by
  refine Runs.start Try.f11 _ Try.func11 rfl (by rw [Try.ntmps11]; simp) (by rfl) (by rfl) (fun hwf hu => ?_)
  obtain ⟨D, hD, hr⟩ : ∃ D : Bool → Prop, (∀ z, D z → z = a) ∧ Holds (scansionlaw18_DarrayPacks g b s) D := ⟨fun z => z = a, fun _ h => h, Holds.intro e rfl⟩
  dsimp only [scansionlaw18_DarrayPacks] at hr
  change wpCode _ _ _ _ _ ⟨[(0, .cv (.val (.agg [.sl (List.map eB g.Final), .sl (List.map (eL eEdge) g.Edges)]))), (1, .cv (.val (.sl (List.map eU b)))), (2, .cv (.val (.int .i64 s)))], h.on []⟩
  refine w_seq ?_
  refine A_region ?_
  refine w_n ?_
  refine w_seq ?_
  refine A_ops ?_
  obtain ⟨r, eF1, hr⟩ := hr.bind
  refine A_call (out := ?o_eF1) (hp := ?p_eF1) ?c_eF1 ?d_eF1 ?_
  case c_eF1 => exact scansionlaw18_awake_runs  eF1
  case d_eF1 => rfl
  refine A_ops_end ?_
  refine w_n ?_
  refine w_seq ?_
  refine A_ops ?_
  refine A_upto 1 ?_
  obtain ⟨r1, eF2, hr⟩ := hr.bind
  refine A_call (out := ?o_eF2) (hp := ?p_eF2) ?c_eF2 ?d_eF2 ?_
  case c_eF2 => exact scansionref17_Few_runs g (60 : Int) eF2
  case d_eF2 => rfl
  refine A_ops_end ?_
  refine w_n ?_
  refine w_seq ?_
  refine w_joinR (sj := ⟨[(1, .cv (.val (.sl (List.map eU b)))), (2, .cv (.val (.int .i64 s))), (3, .cv (.val (.ptr (some (h.n + 0, 0))))), (7, .cv (.val (.bool r))), (31, .cv (.val (.bool ((!r) || ((!r1) || (decide ((b.length : Int) > (100 : Int))))))))], h.on [some (.cells [.val (.sl (List.map eB g.Final)), .val (.sl (List.map (eL eEdge) g.Edges))])]⟩) (A_ops ?_) ?_
  · refine A_upto 3 ?_
    rcases Bool.eq_false_or_eq_true (!r) with cF3 | cF3
    · refine A_ops_end ?_
      exact w_k (A_cut hwf)
    · refine A_upto 4 ?_
      rcases Bool.eq_false_or_eq_true (!r1) with cF4 | cF4
      · refine A_ops_end ?_
        exact w_k (A_cut hwf)
      · refine A_ops_end ?_
        exact w_k (A_cut hwf)
  refine A_condH hr (fun cF5 hr => ?_) (fun cF5 hr => ?_)
  · refine w_seq ?_
    refine A_region ?_
    refine w_n ?_
    refine w_ret ?_
    obtain rfl := hD _ hr
    exact (w_tr (A_endR (A_cut (os' := []) (sl := [(6, .cv (.val (.bool r)))]) hwf) ⟨rfl, on_nil hwf⟩))
  · refine w_skip ?_
    refine w_n ?_
    refine w_seq ?_
    refine A_ops ?_
    refine A_upto 1 ?_
    obtain ⟨r2, eF6, hr⟩ := hr.bind
    try dsimp only at hr
    rcases xF33 : r2.1 with _ | y
    · rw [xF33] at hr
      dsimp only at hr
      refine A_call (out := ?o_eF6a) (hp := ?p_eF6a) ?c_eF6a ?d_eF6a ?_
      case c_eF6a => exact darray_Pack_runs_none g eF6 xF33
      case d_eF6a => rfl
      refine A_ops_end ?_
      refine w_n ?_
      refine w_seq ?_
      refine A_ops ?_
      refine A_upto 1 ?_
      obtain ⟨r3, eF7, hr⟩ := hr.bind
      try dsimp only at hr
      rcases xF13 : r3.1 with _ | y1
      · rw [xF13] at hr
        dsimp only at hr
        refine A_call (out := ?o_eF7a) (hp := ?p_eF7a) ?c_eF7a ?d_eF7a ?_
        case c_eF7a => exact scansionref18_Pack_runs_none g eF7 xF13
        case d_eF7a => rfl
        refine A_ops_end ?_
        refine w_n ?_
        refine w_seq ?_
        refine w_joinR (sj := ⟨[(1, .cv (.val (.sl (List.map eU b)))), (2, .cv (.val (.int .i64 s))), (3, .cv (.val (.ptr (some (h.n + 0, 0))))), (9, .cv (.val (.ptr none))), (11, .cv (.val (.ptr none))), (52, .cv (.val (.bool (r2.2 != r3.2))))], h.on [some (.cells [.val (.sl (List.map eB g.Final)), .val (.sl (List.map (eL eEdge) g.Edges))])]⟩) (A_ops ?_) ?_
        · refine A_upto 4 ?_
          rcases Bool.eq_false_or_eq_true (r2.2 != r3.2) with cF8 | cF8
          · refine A_ops_end ?_
            exact w_k (A_cut hwf)
          · refine A_ops_end ?_
            exact w_k (A_cut hwf)
        refine A_condH hr (fun cF9 hr => ?_) (fun cF9 hr => ?_)
        · refine w_seq ?_
          refine A_region ?_
          refine w_n ?_
          refine w_ret ?_
          obtain rfl := hD _ hr
          exact (w_tr (A_endR (A_cut (os' := []) (sl := [(6, .cv (.val (.bool false)))]) hwf) ⟨rfl, on_nil hwf⟩))
        · refine w_skip ?_
          refine w_n ?_
          refine w_seq ?_
          refine w_seq ?_
          refine A_region ?_
          refine w_n ?_
          refine A_cond true (fun _ => ?_) (fun cF10 => by cases cF10)
          refine w_seq ?_
          refine A_region ?_
          refine w_n ?_
          refine w_ret ?_
          obtain rfl := hD _ hr
          exact (w_tr (A_endR (A_cut (os' := []) (sl := [(6, .cv (.val (.bool true)))]) hwf) ⟨rfl, on_nil hwf⟩))
      · rw [xF13] at hr
        dsimp only at hr
        refine A_call (out := ?o_eF7b) (hp := ?p_eF7b) ?c_eF7b ?d_eF7b ?_
        case c_eF7b => exact scansionref18_Pack_runs_some g eF7 xF13
        case d_eF7b => rfl
        refine A_ops_end ?_
        refine w_n ?_
        refine w_seq ?_
        refine w_joinR (sj := ⟨[(1, .cv (.val (.sl (List.map eU b)))), (2, .cv (.val (.int .i64 s))), (3, .cv (.val (.ptr (some (h.n + 0, 0))))), (9, .cv (.val (.ptr none))), (11, .cv (.val (.ptr (some (h.n + 2, 0))))), (52, .cv (.val (.bool true)))], h.on [some (.cells [.val (.sl (List.map eB g.Final)), .val (.sl (List.map (eL eEdge) g.Edges))]), none, some (.cells [.val (.sl (List.map eB y1.G.Final)), .val (.sl (List.map (eL eEdge) y1.G.Edges)), .val (.int .i64 y1.Cells)])]⟩) (A_ops ?_) ?_
        · refine A_upto 4 ?_
          rcases Bool.eq_false_or_eq_true (r2.2 != r3.2) with cF11 | cF11
          · refine A_ops_end ?_
            exact w_k (A_cut hwf)
          · refine A_ops_end ?_
            exact w_k (A_cut hwf)
        refine A_cond true (fun _ => ?_) (fun cF12 => by cases cF12)
        refine w_seq ?_
        refine A_region ?_
        refine w_n ?_
        refine w_ret ?_
        obtain rfl := hD _ hr
        exact (w_tr (A_endR (A_cut (os' := []) (sl := [(6, .cv (.val (.bool false)))]) hwf) ⟨rfl, on_nil hwf⟩))
    · rw [xF33] at hr
      dsimp only at hr
      refine A_call (out := ?o_eF6b) (hp := ?p_eF6b) ?c_eF6b ?d_eF6b ?_
      case c_eF6b => exact darray_Pack_runs_some g eF6 xF33
      case d_eF6b => rfl
      refine A_ops_end ?_
      refine w_n ?_
      refine w_seq ?_
      refine A_ops ?_
      refine A_upto 1 ?_
      obtain ⟨r4, eF14, hr⟩ := hr.bind
      try dsimp only at hr
      rcases xF32 : r4.1 with _ | y2
      · rw [xF32] at hr
        dsimp only at hr
        refine A_call (out := ?o_eF14a) (hp := ?p_eF14a) ?c_eF14a ?d_eF14a ?_
        case c_eF14a => exact scansionref18_Pack_runs_none g eF14 xF32
        case d_eF14a => rfl
        refine A_ops_end ?_
        refine w_n ?_
        refine w_seq ?_
        refine w_joinR (sj := ⟨[(1, .cv (.val (.sl (List.map eU b)))), (2, .cv (.val (.int .i64 s))), (3, .cv (.val (.ptr (some (h.n + 0, 0))))), (9, .cv (.val (.ptr (some (h.n + 2, 0))))), (11, .cv (.val (.ptr none))), (52, .cv (.val (.bool true)))], h.on [some (.cells [.val (.sl (List.map eB g.Final)), .val (.sl (List.map (eL eEdge) g.Edges))]), none, some (.cells [.val (.sl (List.map eB y.graph.Final)), .val (.sl (List.map (eL eEdge) y.graph.Edges)), .row 3 (List.map eI y.base), .row 91 (List.map edarray_cell y.cells), .val (.sl (List.map eI y.count))])]⟩) (A_ops ?_) ?_
        · refine A_upto 4 ?_
          rcases Bool.eq_false_or_eq_true (r2.2 != r4.2) with cF15 | cF15
          · refine A_ops_end ?_
            exact w_k (A_cut hwf)
          · refine A_ops_end ?_
            exact w_k (A_cut hwf)
        refine A_cond true (fun _ => ?_) (fun cF16 => by cases cF16)
        refine w_seq ?_
        refine A_region ?_
        refine w_n ?_
        refine w_ret ?_
        obtain rfl := hD _ hr
        exact (w_tr (A_endR (A_cut (os' := []) (sl := [(6, .cv (.val (.bool false)))]) hwf) ⟨rfl, on_nil hwf⟩))
      · rw [xF32] at hr
        dsimp only at hr
        refine A_call (out := ?o_eF14b) (hp := ?p_eF14b) ?c_eF14b ?d_eF14b ?_
        case c_eF14b => exact scansionref18_Pack_runs_some g eF14 xF32
        case d_eF14b => rfl
        refine A_ops_end ?_
        refine w_n ?_
        refine w_seq ?_
        refine w_joinR (sj := ⟨[(1, .cv (.val (.sl (List.map eU b)))), (2, .cv (.val (.int .i64 s))), (3, .cv (.val (.ptr (some (h.n + 0, 0))))), (9, .cv (.val (.ptr (some (h.n + 2, 0))))), (11, .cv (.val (.ptr (some (h.n + 4, 0))))), (52, .cv (.val (.bool (r2.2 != r4.2))))], h.on [some (.cells [.val (.sl (List.map eB g.Final)), .val (.sl (List.map (eL eEdge) g.Edges))]), none, some (.cells [.val (.sl (List.map eB y.graph.Final)), .val (.sl (List.map (eL eEdge) y.graph.Edges)), .row 3 (List.map eI y.base), .row 91 (List.map edarray_cell y.cells), .val (.sl (List.map eI y.count))]), none, some (.cells [.val (.sl (List.map eB y2.G.Final)), .val (.sl (List.map (eL eEdge) y2.G.Edges)), .val (.int .i64 y2.Cells)])]⟩) (A_ops ?_) ?_
        · refine A_upto 4 ?_
          rcases Bool.eq_false_or_eq_true (r2.2 != r4.2) with cF17 | cF17
          · refine A_ops_end ?_
            exact w_k (A_cut hwf)
          · refine A_ops_end ?_
            exact w_k (A_cut hwf)
        refine A_condH hr (fun cF18 hr => ?_) (fun cF18 hr => ?_)
        · refine w_seq ?_
          refine A_region ?_
          refine w_n ?_
          refine w_ret ?_
          obtain rfl := hD _ hr
          exact (w_tr (A_endR (A_cut (os' := []) (sl := [(6, .cv (.val (.bool false)))]) hwf) ⟨rfl, on_nil hwf⟩))
        · refine w_skip ?_
          refine w_n ?_
          refine w_seq ?_
          refine w_seq ?_
          refine A_region ?_
          refine w_n ?_
          refine A_cond false (fun cF19 => by cases cF19) (fun _ => ?_)
          refine w_skip ?_
          refine w_n ?_
          refine w_seq ?_
          refine w_seq ?_
          refine A_region ?_
          refine w_n ?_
          refine w_K (D := D) (fun xX : Unit => ⟨[(1, .cv (.val (.sl (List.map eU b)))), (2, .cv (.val (.int .i64 s))), (3, .cv (.val (.ptr (some (h.n + 0, 0))))), (9, .cv (.val (.ptr (some (h.n + 2, 0))))), (11, .cv (.val (.ptr (some (h.n + 4, 0)))))], h.on [some (.cells [.val (.sl (List.map eB g.Final)), .val (.sl (List.map (eL eEdge) g.Edges))]), none, some (.cells [.val (.sl (List.map eB y.graph.Final)), .val (.sl (List.map (eL eEdge) y.graph.Edges)), .row 3 (List.map eI y.base), .row 91 (List.map edarray_cell y.cells), .val (.sl (List.map eI y.count))]), none, some (.cells [.val (.sl (List.map eB y2.G.Final)), .val (.sl (List.map (eL eEdge) y2.G.Edges)), .val (.int .i64 y2.Cells)])]⟩) (fun xX : Unit => scansionlaw18_DarrayPacks.k1 g b s y y2) (fun xX s' hr ht => ?_) ?_
          · dsimp only [scansionlaw18_DarrayPacks.k1] at hr ht
            refine (w_nT ht ?_)
            obtain ⟨v5, vF26, hr⟩ := hr.bind
            refine w_joinR (sj := ⟨[(6, .cv (.val (.bool v5)))], h.on []⟩) (w_drawn [0, 1, 3, 4, 2, 5, 6, 7, 8, 10, 11, 12, 13, 9, 14, 15, 16, 17, 18, 19, 20, 21, 22] (by rfl) ?_) ?_
            · have hr := Holds.intro (D := fun z => z = v5) vF26 rfl
              refine p_run (l := [0, 1, 3, 4]) (pend' := [4, 3, 1, 0]) (by simp (disch := (apply Apart.mk; decide)) only [go_sem, Nat.reduceAdd, Nat.reduceLT, Nat.reduceMul, Nat.reduceLeDiff, Int.reduceToNat, Int.reduceLT, Int.reduceLE]; rfl) rfl ?_
              obtain ⟨r5, eF20, hr⟩ := hr.bind
              refine p_call (out := ?o_eF20) (hp := ?p_eF20) (pend' := [4, 3]) rfl (by simp (disch := (apply Apart.mk; decide)) only [go_sem, Nat.reduceAdd, Nat.reduceLT, Nat.reduceMul, Nat.reduceLeDiff, Int.reduceToNat, Int.reduceLT, Int.reduceLE, Option.getD_some]) rfl (by simp (disch := (apply Apart.mk; decide)) only [go_sem, Nat.reduceAdd, Nat.reduceLT, Nat.reduceMul, Nat.reduceLeDiff, Int.reduceToNat, Int.reduceLT, Int.reduceLE, Option.getD_some]; rfl) (by simp (disch := (apply Apart.mk; decide)) only [go_sem, Nat.reduceAdd, Nat.reduceLT, Nat.reduceMul, Nat.reduceLeDiff, Int.reduceToNat, Int.reduceLT, Int.reduceLE, Option.getD_some]; rfl) (by simp (disch := (apply Apart.mk; decide)) only [go_sem, Nat.reduceAdd, Nat.reduceLT, Nat.reduceMul, Nat.reduceLeDiff, Int.reduceToNat, Int.reduceLT, Int.reduceLE, Option.getD_some]; rfl) (by rfl) ?c_eF20 ?d_eF20 ?_
              case c_eF20 => (refine darray_Array_Final_runs y s (h.n + 2) ?_ eF20; (simp (disch := (apply Apart.mk; decide)) only [go_sem, Nat.reduceAdd, Nat.reduceLT, Nat.reduceMul, Nat.reduceLeDiff, Int.reduceToNat, Int.reduceLT, Int.reduceLE]))
              case d_eF20 => rfl
              obtain ⟨r6, eF21, hr⟩ := hr.bind
              refine p_call (out := ?o_eF21) (hp := ?p_eF21) (pend' := []) rfl (by simp (disch := (apply Apart.mk; decide)) only [go_sem, Nat.reduceAdd, Nat.reduceLT, Nat.reduceMul, Nat.reduceLeDiff, Int.reduceToNat, Int.reduceLT, Int.reduceLE, Option.getD_some]) rfl (by simp (disch := (apply Apart.mk; decide)) only [go_sem, Nat.reduceAdd, Nat.reduceLT, Nat.reduceMul, Nat.reduceLeDiff, Int.reduceToNat, Int.reduceLT, Int.reduceLE, Option.getD_some]; rfl) (by simp (disch := (apply Apart.mk; decide)) only [go_sem, Nat.reduceAdd, Nat.reduceLT, Nat.reduceMul, Nat.reduceLeDiff, Int.reduceToNat, Int.reduceLT, Int.reduceLE, Option.getD_some]; rfl) (by simp (disch := (apply Apart.mk; decide)) only [go_sem, Nat.reduceAdd, Nat.reduceLT, Nat.reduceMul, Nat.reduceLeDiff, Int.reduceToNat, Int.reduceLT, Int.reduceLE, Option.getD_some]; rfl) (by rfl) ?c_eF21 ?d_eF21 ?_
              case c_eF21 => (refine scansionref18_Array_Final_runs y2 s (h.n + 4) ?_ eF21; (simp (disch := (apply Apart.mk; decide)) only [go_sem, Nat.reduceAdd, Nat.reduceLT, Nat.reduceMul, Nat.reduceLeDiff, Int.reduceToNat, Int.reduceLT, Int.reduceLE]))
              case d_eF21 => rfl
              refine p_run (l := [6, 7]) (pend' := [7, 6]) (by simp (disch := (apply Apart.mk; decide)) only [go_sem, Nat.reduceAdd, Nat.reduceLT, Nat.reduceMul, Nat.reduceLeDiff, Int.reduceToNat, Int.reduceLT, Int.reduceLE]; rfl) rfl ?_
              rcases hr.ite with ⟨cF22, hr⟩ | ⟨cF22, hr⟩
              · refine p_run (l := [8, 10, 11, 12, 13]) (pend' := [13, 12, 11, 10, 8, 7, 6]) (by simp (disch := (apply Apart.mk; decide)) only [go_sem, Nat.reduceAdd, Nat.reduceLT, Nat.reduceMul, Nat.reduceLeDiff, Int.reduceToNat, Int.reduceLT, Int.reduceLE, cF22]; rfl) rfl ?_
                obtain ⟨r7, eF23, hr⟩ := hr.bind
                refine p_call (out := ?o_eF23) (hp := ?p_eF23) (pend' := [13, 12, 11, 10]) rfl (by simp (disch := (apply Apart.mk; decide)) only [go_sem, Nat.reduceAdd, Nat.reduceLT, Nat.reduceMul, Nat.reduceLeDiff, Int.reduceToNat, Int.reduceLT, Int.reduceLE, Option.getD_some, cF22]) (by simp (disch := (apply Apart.mk; decide)) only [go_sem, Nat.reduceAdd, Nat.reduceLT, Nat.reduceMul, Nat.reduceLeDiff, Int.reduceToNat, Int.reduceLT, Int.reduceLE, Option.getD_some, cF22]) (by simp (disch := (apply Apart.mk; decide)) only [go_sem, Nat.reduceAdd, Nat.reduceLT, Nat.reduceMul, Nat.reduceLeDiff, Int.reduceToNat, Int.reduceLT, Int.reduceLE, Option.getD_some, cF22]; rfl) (by simp (disch := (apply Apart.mk; decide)) only [go_sem, Nat.reduceAdd, Nat.reduceLT, Nat.reduceMul, Nat.reduceLeDiff, Int.reduceToNat, Int.reduceLT, Int.reduceLE, Option.getD_some, cF22]; rfl) (by simp (disch := (apply Apart.mk; decide)) only [go_sem, Nat.reduceAdd, Nat.reduceLT, Nat.reduceMul, Nat.reduceLeDiff, Int.reduceToNat, Int.reduceLT, Int.reduceLE, Option.getD_some, cF22]; rfl) (by rfl) ?c_eF23 ?d_eF23 ?_
                case c_eF23 => (refine darray_Array_Start_runs y (h.n + 2) ?_ eF23; (simp (disch := (apply Apart.mk; decide)) only [go_sem, Nat.reduceAdd, Nat.reduceLT, Nat.reduceMul, Nat.reduceLeDiff, Int.reduceToNat, Int.reduceLT, Int.reduceLE]))
                case d_eF23 => rfl
                refine p_run (l := [14, 15, 16]) (pend' := [16, 15, 14, 13, 12, 11, 10]) (by simp (disch := (apply Apart.mk; decide)) only [go_sem, Nat.reduceAdd, Nat.reduceLT, Nat.reduceMul, Nat.reduceLeDiff, Int.reduceToNat, Int.reduceLT, Int.reduceLE, cF22]; rfl) rfl ?_
                rcases hr.ite with ⟨cF24, hr⟩ | ⟨cF24, hr⟩
                · refine p_run (l := [17, 18, 19]) (pend' := [19, 18, 17, 16, 15, 14, 13, 12, 11, 10]) (by simp (disch := (apply Apart.mk; decide)) only [go_sem, Nat.reduceAdd, Nat.reduceLT, Nat.reduceMul, Nat.reduceLeDiff, Int.reduceToNat, Int.reduceLT, Int.reduceLE, cF22, cF24]; rfl) rfl ?_
                  obtain ⟨r8, eF25, hr⟩ := hr.bind
                  refine p_call (out := ?o_eF25) (hp := ?p_eF25) (pend' := []) rfl (by simp (disch := (apply Apart.mk; decide)) only [go_sem, Nat.reduceAdd, Nat.reduceLT, Nat.reduceMul, Nat.reduceLeDiff, Int.reduceToNat, Int.reduceLT, Int.reduceLE, Option.getD_some, cF22, cF24]) (by simp (disch := (apply Apart.mk; decide)) only [go_sem, Nat.reduceAdd, Nat.reduceLT, Nat.reduceMul, Nat.reduceLeDiff, Int.reduceToNat, Int.reduceLT, Int.reduceLE, Option.getD_some, cF22, cF24]) (by simp (disch := (apply Apart.mk; decide)) only [go_sem, Nat.reduceAdd, Nat.reduceLT, Nat.reduceMul, Nat.reduceLeDiff, Int.reduceToNat, Int.reduceLT, Int.reduceLE, Option.getD_some, cF22, cF24]; rfl) (by simp (disch := (apply Apart.mk; decide)) only [go_sem, Nat.reduceAdd, Nat.reduceLT, Nat.reduceMul, Nat.reduceLeDiff, Int.reduceToNat, Int.reduceLT, Int.reduceLE, Option.getD_some, cF22, cF24]; rfl) (by simp (disch := (apply Apart.mk; decide)) only [go_sem, Nat.reduceAdd, Nat.reduceLT, Nat.reduceMul, Nat.reduceLeDiff, Int.reduceToNat, Int.reduceLT, Int.reduceLE, Option.getD_some, cF22, cF24]; rfl) (by rfl) ?c_eF25 ?d_eF25 ?_
                  case c_eF25 => (refine scansionlaw18_alike_runs y y2 b (h.n + 2) (h.n + 4) ?_ ?_ ?_ eF25; (simp (disch := (apply Apart.mk; decide)) only [go_sem, Nat.reduceAdd, Nat.reduceLT, Nat.reduceMul, Nat.reduceLeDiff, Int.reduceToNat, Int.reduceLT, Int.reduceLE]); (simp (disch := (apply Apart.mk; decide)) only [go_sem, Nat.reduceAdd, Nat.reduceLT, Nat.reduceMul, Nat.reduceLeDiff, Int.reduceToNat, Int.reduceLT, Int.reduceLE]); (first | omega | assumption | exact Ne.symm (by assumption)))
                  case d_eF25 => rfl
                  refine p_run (l := [21]) (pend' := [21]) (by simp (disch := (apply Apart.mk; decide)) only [go_sem, Nat.reduceAdd, Nat.reduceLT, Nat.reduceMul, Nat.reduceLeDiff, Int.reduceToNat, Int.reduceLT, Int.reduceLE, cF22, cF24]; rfl) rfl ?_
                  refine p_op (pend' := []) rfl (by simp (disch := (apply Apart.mk; decide)) only [go_sem, Nat.reduceAdd, Nat.reduceLT, Nat.reduceMul, Nat.reduceLeDiff, Int.reduceToNat, Int.reduceLT, Int.reduceLE, cF22, cF24]) (by simp (disch := (apply Apart.mk; decide)) only [go_sem, Nat.reduceAdd, Nat.reduceLT, Nat.reduceMul, Nat.reduceLeDiff, Int.reduceToNat, Int.reduceLT, Int.reduceLE, cF22, cF24]; rfl) (by rfl) ?_
                  refine p_end (by simp (disch := (apply Apart.mk; decide)) only [go_sem, Nat.reduceAdd, Nat.reduceLT, Nat.reduceMul, Nat.reduceLeDiff, Int.reduceToNat, Int.reduceLT, Int.reduceLE, cF22, cF24]) ?_
                  obtain rfl : _ = v5 := hr
                  exact w_k (A_cut hwf)
                · refine p_run (l := [17, 18, 19]) (pend' := [19, 18, 17, 16, 15, 14, 13, 12, 11, 10]) (by simp (disch := (apply Apart.mk; decide)) only [go_sem, Nat.reduceAdd, Nat.reduceLT, Nat.reduceMul, Nat.reduceLeDiff, Int.reduceToNat, Int.reduceLT, Int.reduceLE, cF22, cF24]; rfl) rfl ?_
                  refine p_op (pend' := []) rfl (by simp (disch := (apply Apart.mk; decide)) only [go_sem, Nat.reduceAdd, Nat.reduceLT, Nat.reduceMul, Nat.reduceLeDiff, Int.reduceToNat, Int.reduceLT, Int.reduceLE, cF22, cF24]) (by simp (disch := (apply Apart.mk; decide)) only [go_sem, Nat.reduceAdd, Nat.reduceLT, Nat.reduceMul, Nat.reduceLeDiff, Int.reduceToNat, Int.reduceLT, Int.reduceLE, cF22, cF24]; rfl) (by rfl) ?_
                  refine p_run (l := [21]) (pend' := [21]) (by simp (disch := (apply Apart.mk; decide)) only [go_sem, Nat.reduceAdd, Nat.reduceLT, Nat.reduceMul, Nat.reduceLeDiff, Int.reduceToNat, Int.reduceLT, Int.reduceLE, cF22, cF24]; rfl) rfl ?_
                  refine p_op (pend' := []) rfl (by simp (disch := (apply Apart.mk; decide)) only [go_sem, Nat.reduceAdd, Nat.reduceLT, Nat.reduceMul, Nat.reduceLeDiff, Int.reduceToNat, Int.reduceLT, Int.reduceLE, cF22, cF24]) (by simp (disch := (apply Apart.mk; decide)) only [go_sem, Nat.reduceAdd, Nat.reduceLT, Nat.reduceMul, Nat.reduceLeDiff, Int.reduceToNat, Int.reduceLT, Int.reduceLE, cF22, cF24]; rfl) (by rfl) ?_
                  refine p_end (by simp (disch := (apply Apart.mk; decide)) only [go_sem, Nat.reduceAdd, Nat.reduceLT, Nat.reduceMul, Nat.reduceLeDiff, Int.reduceToNat, Int.reduceLT, Int.reduceLE, cF22, cF24]) ?_
                  obtain rfl : _ = v5 := hr
                  exact w_k (A_cut hwf)
              · refine p_run (l := [8, 10, 11, 12, 13]) (pend' := [13, 12, 11, 10, 8, 7, 6]) (by simp (disch := (apply Apart.mk; decide)) only [go_sem, Nat.reduceAdd, Nat.reduceLT, Nat.reduceMul, Nat.reduceLeDiff, Int.reduceToNat, Int.reduceLT, Int.reduceLE, cF22]; rfl) rfl ?_
                refine p_op (pend' := [13, 12, 11, 10]) rfl (by simp (disch := (apply Apart.mk; decide)) only [go_sem, Nat.reduceAdd, Nat.reduceLT, Nat.reduceMul, Nat.reduceLeDiff, Int.reduceToNat, Int.reduceLT, Int.reduceLE, cF22]) (by simp (disch := (apply Apart.mk; decide)) only [go_sem, Nat.reduceAdd, Nat.reduceLT, Nat.reduceMul, Nat.reduceLeDiff, Int.reduceToNat, Int.reduceLT, Int.reduceLE, cF22]; rfl) (by rfl) ?_
                refine p_run (l := [14, 15, 16, 17, 18, 19]) (pend' := [19, 18, 17, 16, 15, 14, 13, 12, 11, 10]) (by simp (disch := (apply Apart.mk; decide)) only [go_sem, Nat.reduceAdd, Nat.reduceLT, Nat.reduceMul, Nat.reduceLeDiff, Int.reduceToNat, Int.reduceLT, Int.reduceLE, cF22]; rfl) rfl ?_
                refine p_op (pend' := []) rfl (by simp (disch := (apply Apart.mk; decide)) only [go_sem, Nat.reduceAdd, Nat.reduceLT, Nat.reduceMul, Nat.reduceLeDiff, Int.reduceToNat, Int.reduceLT, Int.reduceLE, cF22]) (by simp (disch := (apply Apart.mk; decide)) only [go_sem, Nat.reduceAdd, Nat.reduceLT, Nat.reduceMul, Nat.reduceLeDiff, Int.reduceToNat, Int.reduceLT, Int.reduceLE, cF22]; rfl) (by rfl) ?_
                refine p_run (l := [21]) (pend' := [21]) (by simp (disch := (apply Apart.mk; decide)) only [go_sem, Nat.reduceAdd, Nat.reduceLT, Nat.reduceMul, Nat.reduceLeDiff, Int.reduceToNat, Int.reduceLT, Int.reduceLE, cF22]; rfl) rfl ?_
                refine p_op (pend' := []) rfl (by simp (disch := (apply Apart.mk; decide)) only [go_sem, Nat.reduceAdd, Nat.reduceLT, Nat.reduceMul, Nat.reduceLeDiff, Int.reduceToNat, Int.reduceLT, Int.reduceLE, cF22]) (by simp (disch := (apply Apart.mk; decide)) only [go_sem, Nat.reduceAdd, Nat.reduceLT, Nat.reduceMul, Nat.reduceLeDiff, Int.reduceToNat, Int.reduceLT, Int.reduceLE, cF22]; rfl) (by rfl) ?_
                refine p_end (by simp (disch := (apply Apart.mk; decide)) only [go_sem, Nat.reduceAdd, Nat.reduceLT, Nat.reduceMul, Nat.reduceLeDiff, Int.reduceToNat, Int.reduceLT, Int.reduceLE, cF22]) ?_
                obtain rfl : _ = v5 := hr
                exact w_k (A_cut hwf)
            refine w_ret ?_
            obtain rfl := hD _ hr
            exact (A_endR (A_cut (os' := []) (sl := [(6, .cv (.val (.bool v5)))]) hwf) ⟨rfl, on_nil hwf⟩)
          · refine w_block ?_
            refine w_Loop (fun xX : Int => ⟨[(1, .cv (.val (.sl (List.map eU b)))), (2, .cv (.val (.int .i64 s))), (3, .cv (.val (.ptr (some (h.n + 0, 0))))), (9, .cv (.val (.ptr (some (h.n + 2, 0))))), (11, .cv (.val (.ptr (some (h.n + 4, 0))))), (13, .cv (.val (.int .i64 xX)))], h.on [some (.cells [.val (.sl (List.map eB g.Final)), .val (.sl (List.map (eL eEdge) g.Edges))]), none, some (.cells [.val (.sl (List.map eB y.graph.Final)), .val (.sl (List.map (eL eEdge) y.graph.Edges)), .row 3 (List.map eI y.base), .row 91 (List.map edarray_cell y.cells), .val (.sl (List.map eI y.count))]), none, some (.cells [.val (.sl (List.map eB y2.G.Final)), .val (.sl (List.map (eL eEdge) y2.G.Edges)), .val (.int .i64 y2.Cells)])]⟩) hr (A_cut hwf) (fun W1 xX hr => ?_)
            obtain ⟨c, rfl⟩ : ∃ z, z = xX := ⟨xX, rfl⟩
            dsimp only [scansionlaw18_DarrayPacks.b1] at hr
            refine w_seq ?_
            refine w_seq ?_
            refine A_region ?_
            refine w_n ?_
            refine A_condH hr (fun cF27 hr => ?_) (fun cF27 hr => ?_)
            · refine w_skip ?_
              refine w_n ?_
              refine w_seq ?_
              refine w_block ?_
              refine w_seq ?_
              refine A_ops ?_
              refine A_upto 4 ?_
              obtain ⟨r9, eF28, hr⟩ := hr.bind
              refine A_call (out := ?o_eF28) (hp := ?p_eF28) ?c_eF28 ?d_eF28 ?_
              case c_eF28 => (rw [show ((IntKind.u8.wrap c) : Int) = ((u8 (IntKind.u8.wrap c)).toNat : Int) from u8_wrap.symm]; refine darray_Array_Step_runs y s (u8 (IntKind.u8.wrap c)) (h.n + 2) ?_ eF28; (simp (disch := (apply Apart.mk; decide)) only [go_sem, Nat.reduceAdd, Nat.reduceLT, Nat.reduceMul, Nat.reduceLeDiff, Int.reduceToNat, Int.reduceLT, Int.reduceLE]))
              case d_eF28 => rfl
              refine A_ops_end ?_
              refine w_n ?_
              refine w_seq ?_
              refine A_ops ?_
              refine A_upto 4 ?_
              obtain ⟨r10, eF29, hr⟩ := hr.bind
              refine A_call (out := ?o_eF29) (hp := ?p_eF29) ?c_eF29 ?d_eF29 ?_
              case c_eF29 => (rw [show ((IntKind.u8.wrap c) : Int) = ((u8 (IntKind.u8.wrap c)).toNat : Int) from u8_wrap.symm]; refine scansionref18_Array_Step_runs y2 s (u8 (IntKind.u8.wrap c)) (h.n + 4) ?_ eF29; (simp (disch := (apply Apart.mk; decide)) only [go_sem, Nat.reduceAdd, Nat.reduceLT, Nat.reduceMul, Nat.reduceLeDiff, Int.reduceToNat, Int.reduceLT, Int.reduceLE]))
              case d_eF29 => rfl
              refine A_ops_end ?_
              refine w_n ?_
              refine w_joinR (sj := ⟨[(1, .cv (.val (.sl (List.map eU b)))), (2, .cv (.val (.int .i64 s))), (3, .cv (.val (.ptr (some (h.n + 0, 0))))), (9, .cv (.val (.ptr (some (h.n + 2, 0))))), (11, .cv (.val (.ptr (some (h.n + 4, 0))))), (13, .cv (.val (.int .i64 c))), (82, .cv (.val (.bool ((r9.1 != r10.1) || (!(r9.2 == r10.2))))))], h.on [some (.cells [.val (.sl (List.map eB g.Final)), .val (.sl (List.map (eL eEdge) g.Edges))]), none, some (.cells [.val (.sl (List.map eB y.graph.Final)), .val (.sl (List.map (eL eEdge) y.graph.Edges)), .row 3 (List.map eI y.base), .row 91 (List.map edarray_cell y.cells), .val (.sl (List.map eI y.count))]), none, some (.cells [.val (.sl (List.map eB y2.G.Final)), .val (.sl (List.map (eL eEdge) y2.G.Edges)), .val (.int .i64 y2.Cells)])]⟩) (A_ops ?_) ?_
              · refine A_upto 4 ?_
                rcases Bool.eq_false_or_eq_true (r9.1 != r10.1) with cF30 | cF30
                · refine A_ops_end ?_
                  exact w_k (A_cut hwf)
                · refine A_ops_end ?_
                  exact w_k (A_cut hwf)
              refine A_condH hr (fun cF31 hr => ?_) (fun cF31 hr => ?_)
              · refine w_seq ?_
                refine A_region ?_
                refine w_n ?_
                refine w_ret ?_
                obtain rfl := hD _ hr
                exact (w_br (w_tr (w_tr (w_br (w_tr (w_tr (A_endR (A_cut (os' := []) (sl := [(6, .cv (.val (.bool false)))]) hwf) ⟨rfl, on_nil hwf⟩)))))))
              · refine w_skip ?_
                refine (w_bn (w_n ?_))
                refine A_region ?_
                exact (w_k ⟨(IntKind.i64.wrap (c + (1 : Int))), hr, (A_cut hwf)⟩)
            · refine w_exit ?_
              exact (w_te (w_te (w_bx (w_k ⟨(), (hr).map, (A_cut hwf)⟩))))
end Go.Val

/- part P1 -/
/- Plain lemmas: loops that are read off. -/
namespace Go.Val
set_option linter.unusedVariables false

theorem w64 {n : Int} (h1 : -9223372036854775808 ≤ n) (h2 : n ≤ 9223372036854775807) : IntKind.i64.wrap n = n := by rw [IntKind.wrap_i64]; omega
theorem w64s {i : Nat} (h : i < 9223372036854775807) : IntKind.i64.wrap ((i : Int) + 1) = ((i + 1 : Nat) : Int) := by rw [w64 (by omega) (by omega)]; omega
theorem idx_nat {α : Type} {xs : List α} {i : Nat} : idx xs (i : Int) = xs[i]? := by
  unfold idx; rw [if_neg (by omega)]; simp
theorem idx_some {α : Type} {xs : List α} {i : Int} {x : α} (h0 : 0 ≤ i) (h : xs[i.toNat]? = some x) : idx xs i = some x := by
  unfold idx; rw [if_neg (by omega)]; exact h
theorem room_ok {sz n : Nat} (h : n * sz ≤ 140737488355328) : room sz n = some () := by
  unfold room roomOf; rw [if_pos h]
theorem roomS_ok {n : Nat} (h : n ≤ 9223372036854775807) : roomS n = some () := by
  unfold roomS; rw [if_neg (by simp [IntKind.max, IntKind.signed, IntKind.bits]; omega)]
theorem mk_ok {α : Type} {sz : Nat} {z : α} {n : Nat} (h : n * sz ≤ 140737488355328) : mk sz z (n : Int) = some (List.replicate n z) := by
  unfold mk roomOf; rw [if_pos ⟨by omega, by simpa using h⟩]; simp

theorem snoc_ind {α : Type} {P : List α → Prop} (h0 : P []) (h1 : ∀ l x, P l → P (l ++ [x])) (l : List α) : P l := by
  have key : ∀ l : List α, P l.reverse := by
    intro l
    induction l with
    | nil => exact h0
    | cons x l ih => rw [List.reverse_cons]; exact h1 _ _ ih
  have := key l.reverse
  rwa [List.reverse_reverse] at this
/-- Rounds that go on, one by one. -/
theorem Loop_run {σ ρ : Type} {b : σ → Option (Step σ ρ)} (st : Nat → σ) {i n : Nat} (hin : i ≤ n) (h : ∀ j, i ≤ j → j < n → b (st j) = some (.next (st (j + 1)))) : Loop b (st i) = Loop b (st n) := by
  induction n with
  | zero => obtain rfl : i = 0 := by omega
            rfl
  | succ n ih =>
    by_cases e : i = n + 1
    · rw [e]
    · rw [ih (by omega) fun j h1 h2 => h j h1 (by omega)]
      exact Loop_next (h n (by omega) (by omega))
theorem Loop_int {ρ : Type} {b : Int → Option (Step Int ρ)} {i n : Nat} (hin : i ≤ n) (h : ∀ j : Nat, i ≤ j → j < n → b j = some (.next ((j + 1 : Nat) : Int))) : Loop b (i : Int) = Loop b (n : Int) := Loop_run (fun j : Nat => (j : Int)) hin h
/-- A loop's end. -/
theorem Loop_end {σ ρ : Type} {b : σ → Option (Step σ ρ)} {s : σ} {R : Option ρ} (h : b s = R.map Step.done) : Loop b s = R := by
  cases R with
  | some r => exact Loop_done h
  | none =>
    apply Option.ext_some
    · intro r hr
      obtain ⟨n, hn⟩ := Loop_get hr
      cases n with
      | zero => simp [rounds] at hn
      | succ n => simp [rounds, h] at hn
    · intro r hr; cases hr
open Classical in
/-- A loop that looks for what is bad. -/
theorem Loop_all {ρ : Type} {b : Int → Option (Step Int ρ)} (P : Nat → Prop) {n : Nat} {r R : ρ} (hg : ∀ j, j < n → P j → b (j : Int) = some (.next ((j + 1 : Nat) : Int))) (hb : ∀ j, j < n → ¬ P j → b (j : Int) = some (.done r)) (he : b (n : Int) = some (.done R)) :
    ∀ (d i : Nat), i + d = n → Loop b (i : Int) = if ∀ j, i ≤ j → j < n → P j then some R else some r := by
  intro d
  induction d with
  | zero =>
    intro i hi
    obtain rfl : i = n := by omega
    rw [if_pos (fun j h1 h2 => by omega)]
    exact Loop_done he
  | succ d ih =>
    intro i hi
    by_cases hp : P i
    · rw [Loop_next (hg i (by omega) hp), ih (i + 1) (by omega)]
      have : (∀ j, i + 1 ≤ j → j < n → P j) ↔ ∀ j, i ≤ j → j < n → P j := by
        constructor
        · intro h j h1 h2
          by_cases e : j = i
          · rw [e]; exact hp
          · exact h j (by omega) h2
        · intro h j h1 h2; exact h j (by omega) h2
      simp only [this]
    · rw [Loop_done (hb i (by omega) hp), if_neg (fun h => hp (h i (Nat.le_refl _) (by omega)))]
theorem Loop_all0 {ρ : Type} {b : Int → Option (Step Int ρ)} (P : Nat → Prop) (n : Nat) {r R : ρ} (hg : ∀ j, j < n → P j → b (j : Int) = some (.next ((j + 1 : Nat) : Int))) (hb : ∀ j, j < n → ¬ P j → b (j : Int) = some (.done r)) (he : b (n : Int) = some (.done R)) :
    ((∀ j, j < n → P j) → Loop b 0 = some R) ∧ ((¬ ∀ j, j < n → P j) → Loop b 0 = some r) := by
  have := Loop_all P hg hb he n 0 (by omega)
  exact ⟨fun h => by rw [if_pos (fun j _ hj => h j hj)] at this; exact this, fun h => by rw [if_neg (fun h' => h fun j hj => h' j (Nat.zero_le _) hj)] at this; exact this⟩
end Go.Val

/- part P2 -/
/- Plain lemmas: graphs that may be. -/
namespace Go.Val
set_option linter.unusedVariables false
def EdgeOk (s : Nat) (xs : List TEdge) (k : Nat) : Prop := ∀ x, xs[k]? = some x → 0 ≤ x.To ∧ x.To < s ∧ (0 < k → ∀ x1, xs[k - 1]? = some x1 → x1.Label.toNat < x.Label.toNat)
def RowOk (s : Nat) (xs : List TEdge) : Prop := ∀ k, k < xs.length → EdgeOk s xs k
structure RightP (g : TGraph) : Prop where
  lo : 1 ≤ g.Final.length
  hi : g.Final.length ≤ 65536
  len : g.Edges.length = g.Final.length
  rows : ∀ s, s < g.Edges.length → ∀ xs, g.Edges[s]? = some xs → RowOk s xs
/-- No row is longer than memory. -/
def Short (g : TGraph) : Prop := ∀ xs ∈ g.Edges, xs.length ≤ 140737488355328

def chk (s : Int) (xs : List TEdge) (k : Int) (x : TEdge) : Option Bool :=
  if (decide (x.To < (0 : Int))) then some true
  else if (decide (x.To ≥ s)) then some true
  else if (decide (k > (0 : Int))) then
    (idx xs (IntKind.i64.wrap (k - (1 : Int)))).bind fun x1 => some (decide ((x.Label.toNat : Int) ≤ (x1.Label.toNat : Int)))
  else some false
theorem chk_eq {s k : Nat} {xs : List TEdge} {x : TEdge} (hk : xs[k]? = some x) (hl : xs.length ≤ 140737488355328) : ∃ v, chk s xs k x = some v ∧ (v = true ↔ ¬ EdgeOk s xs k) := by
  have hlt : k < xs.length := (List.getElem?_eq_some_iff.1 hk).1
  unfold chk
  by_cases h1 : x.To < 0
  · exact ⟨true, by simp [h1], by simp; intro h; have := (h x hk).1; omega⟩
  by_cases h2 : x.To ≥ s
  · exact ⟨true, by simp [h1, h2], by simp; intro h; have := (h x hk).2.1; omega⟩
  by_cases h3 : 0 < k
  · have hlt1 : k - 1 < xs.length := by omega
    have h4 : xs[k - 1]? = some (xs[k - 1]) := List.getElem?_eq_getElem hlt1
    have e : IntKind.i64.wrap ((k : Int) - 1) = ((k - 1 : Nat) : Int) := by rw [w64 (by omega) (by omega)]; omega
    refine ⟨decide ((x.Label.toNat : Int) ≤ (xs[k - 1].Label.toNat : Int)), ?_, ?_⟩
    · rw [if_neg (by simp; omega), if_neg (by simp; omega), if_pos (by simp; omega), e, idx_nat, h4]; rfl
    · simp only [decide_eq_true_eq]
      constructor
      · intro h hok
        have := (hok x hk).2.2 h3 _ h4
        omega
      · intro h
        by_cases hc : (x.Label.toNat : Int) ≤ (xs[k - 1].Label.toNat : Int)
        · exact hc
        · exfalso; apply h
          intro y hy
          rw [hk] at hy; cases hy
          exact ⟨by omega, by omega, fun _ x1 hx1 => by rw [h4] at hx1; cases hx1; omega⟩
  · refine ⟨false, ?_, ?_⟩
    · rw [if_neg (by simp; omega), if_neg (by simp; omega), if_neg (by simp; omega)]
    · simp only [Bool.false_eq_true, false_iff, Classical.not_not]
      intro y hy
      rw [hk] at hy; cases hy
      exact ⟨by omega, by omega, fun h => absurd h h3⟩

theorem dawg_Right_row {s : Nat} {xs : List TEdge} (hs : s ≤ 65536) (hl : xs.length ≤ 140737488355328) : (RowOk s xs → Loop (dawg_Right.b2 s xs) 0 = some (.next ((s + 1 : Nat) : Int))) ∧ (¬ RowOk s xs → Loop (dawg_Right.b2 s xs) 0 = some (.done false)) := by
  refine Loop_all0 (fun k => EdgeOk s xs k) xs.length (fun k hk hp => ?_) (fun k hk hp => ?_) ?_
  · have hx : xs[k]? = some xs[k] := List.getElem?_eq_getElem hk
    obtain ⟨v, h1, h2⟩ := chk_eq (s := s) hx hl
    have hv : v = false := by cases v with
      | true => exact absurd hp (h2.1 rfl)
      | false => rfl
    unfold dawg_Right.b2
    rw [if_pos (by simp; omega), idx_nat, hx]
    show (chk s xs k xs[k]).bind _ = _
    rw [h1, hv]
    simp [w64s (show k < 9223372036854775807 by omega)]
  · have hx : xs[k]? = some xs[k] := List.getElem?_eq_getElem hk
    obtain ⟨v, h1, h2⟩ := chk_eq (s := s) hx hl
    have hv : v = true := h2.2 hp
    unfold dawg_Right.b2
    rw [if_pos (by simp; omega), idx_nat, hx]
    show (chk s xs k xs[k]).bind _ = _
    rw [h1, hv]
    rfl
  · unfold dawg_Right.b2
    rw [if_neg (by simp)]
    simp [dawg_Right.k2, w64s (show s < 9223372036854775807 by omega)]
theorem ref_Right_row {g : TGraph} {s : Nat} {xs : List TEdge} (hg : g.Edges[s]? = some xs) (hs : s ≤ 65536) (hl : xs.length ≤ 140737488355328) : (RowOk s xs → Loop (scansionref17_Right.b2 g s) 0 = some (.next ((s + 1 : Nat) : Int))) ∧ (¬ RowOk s xs → Loop (scansionref17_Right.b2 g s) 0 = some (.done false)) := by
  refine Loop_all0 (fun k => EdgeOk s xs k) xs.length (fun k hk hp => ?_) (fun k hk hp => ?_) ?_
  · have hx : xs[k]? = some xs[k] := List.getElem?_eq_getElem hk
    obtain ⟨v, h1, h2⟩ := chk_eq (s := s) hx hl
    have hv : v = false := by cases v with
      | true => exact absurd hp (h2.1 rfl)
      | false => rfl
    unfold scansionref17_Right.b2
    rw [idx_nat, hg, Option.bind_some, if_pos (by simp; omega), idx_nat, hx]
    show (chk s xs k xs[k]).bind _ = _
    rw [h1, hv]
    simp [w64s (show k < 9223372036854775807 by omega)]
  · have hx : xs[k]? = some xs[k] := List.getElem?_eq_getElem hk
    obtain ⟨v, h1, h2⟩ := chk_eq (s := s) hx hl
    have hv : v = true := h2.2 hp
    unfold scansionref17_Right.b2
    rw [idx_nat, hg, Option.bind_some, if_pos (by simp; omega), idx_nat, hx]
    show (chk s xs k xs[k]).bind _ = _
    rw [h1, hv]
    rfl
  · unfold scansionref17_Right.b2
    rw [idx_nat, hg, Option.bind_some, if_neg (by simp)]
    simp [scansionref17_Right.k2, w64s (show s < 9223372036854775807 by omega)]

open Classical in
theorem dawg_Right_eq {g : TGraph} (hs : Short g) : dawg_Right g = some (decide (RightP g)) := by
  unfold dawg_Right
  split
  · rename_i h
    have : ¬ RightP g := fun hr => by
      have h1 := hr.lo; have h2 := hr.hi; have h3 := hr.len
      simp at h; omega
    simp [this]
  · rename_i h
    simp at h
    obtain ⟨k1, k2⟩ := Loop_all0 (b := dawg_Right.b1 g) (fun s => ∀ xs, g.Edges[s]? = some xs → RowOk s xs) g.Edges.length (r := false) (R := true) (fun s hlt hp => by
        have hx : g.Edges[s]? = some g.Edges[s] := List.getElem?_eq_getElem hlt
        unfold dawg_Right.b1
        rw [if_pos (by simp; omega), idx_nat, hx, Option.bind_some, (dawg_Right_row (by omega) (hs _ (List.getElem_mem hlt))).1 (hp _ hx)])
      (fun s hlt hp => by
        have hx : g.Edges[s]? = some g.Edges[s] := List.getElem?_eq_getElem hlt
        unfold dawg_Right.b1
        rw [if_pos (by simp; omega), idx_nat, hx, Option.bind_some, (dawg_Right_row (by omega) (hs _ (List.getElem_mem hlt))).2 (fun h => hp fun xs he => by rw [hx] at he; cases he; exact h)])
      (by unfold dawg_Right.b1; rw [if_neg (by simp)]; rfl)
    by_cases hr : RightP g
    · rw [k1 hr.rows]; simp [hr]
    · rw [k2 (fun hrows => hr ⟨by omega, by omega, by omega, hrows⟩)]; simp [hr]
open Classical in
theorem ref_Right_eq {g : TGraph} (hs : Short g) : scansionref17_Right g = some (decide (RightP g)) := by
  unfold scansionref17_Right
  split
  · rename_i h
    have : ¬ RightP g := fun hr => by
      have h1 := hr.lo; have h2 := hr.hi; have h3 := hr.len
      simp at h; omega
    simp [this]
  · rename_i h
    simp at h
    obtain ⟨k1, k2⟩ := Loop_all0 (b := scansionref17_Right.b1 g) (fun s => ∀ xs, g.Edges[s]? = some xs → RowOk s xs) g.Final.length (r := false) (R := true) (fun s hlt hp => by
        have hx : g.Edges[s]? = some (g.Edges[s]'(by omega)) := List.getElem?_eq_getElem _
        unfold scansionref17_Right.b1
        rw [if_pos (by simp; omega), (ref_Right_row hx (by omega) (hs _ (List.getElem_mem _))).1 (hp _ hx)])
      (fun s hlt hp => by
        have hx : g.Edges[s]? = some (g.Edges[s]'(by omega)) := List.getElem?_eq_getElem _
        unfold scansionref17_Right.b1
        rw [if_pos (by simp; omega), (ref_Right_row hx (by omega) (hs _ (List.getElem_mem _))).2 (fun h => hp fun xs he => by rw [hx] at he; cases he; exact h)])
      (by unfold scansionref17_Right.b1; rw [if_neg (by simp)]; rfl)
    by_cases hr : RightP g
    · rw [k1 (fun s hlt => hr.rows s (by omega))]; simp [hr]
    · rw [k2 (fun hrows => hr ⟨by omega, by omega, by omega, fun s hlt => hrows s (by omega)⟩)]; simp [hr]
end Go.Val

/- part P3 -/
/- Plain lemmas: how many words lead to an end. -/
namespace Go.Val
set_option linter.unusedVariables false
def cap : Int := 1099511627776
def crow (cs : List Int) (n : Int) (xs : List TEdge) : Int := xs.foldl (fun n x => mn (n + cs.getD x.To.toNat 0) cap) n
def cstep (cs : List Int) (p : Bool × List TEdge) : Int := crow cs (if p.1 then 1 else 0) p.2
def counts (rows : List (Bool × List TEdge)) : List Int := rows.foldl (fun cs p => cs ++ [cstep cs p]) []
def rowsOf (g : TGraph) : List (Bool × List TEdge) := g.Final.zip g.Edges

theorem counts_snoc {rows : List (Bool × List TEdge)} {p : Bool × List TEdge} : counts (rows ++ [p]) = counts rows ++ [cstep (counts rows) p] := by simp [counts]
theorem counts_len (rows : List (Bool × List TEdge)) : (counts rows).length = rows.length := by
  induction rows using snoc_ind with
  | h0 => rfl
  | h1 rows p ih => rw [counts_snoc]; simp [ih]
theorem mn_le {a b : Int} : mn a b ≤ b ∧ mn a b ≤ a := by unfold mn; split <;> omega
theorem mn_ge {a b c : Int} (h1 : c ≤ a) (h2 : c ≤ b) : c ≤ mn a b := by unfold mn; split <;> omega
theorem getD_bound {cs : List Int} (hc : ∀ c ∈ cs, 0 ≤ c ∧ c ≤ cap) (i : Nat) : 0 ≤ cs.getD i 0 ∧ cs.getD i 0 ≤ cap := by
  rw [List.getD_eq_getElem?_getD]
  cases h : cs[i]? with
  | none => simp [cap]
  | some c => simpa using hc c (List.mem_of_getElem? h)
theorem crow_bound {cs : List Int} (hc : ∀ c ∈ cs, 0 ≤ c ∧ c ≤ cap) : ∀ (xs : List TEdge) {n : Int}, 0 ≤ n → n ≤ cap → 0 ≤ crow cs n xs ∧ crow cs n xs ≤ cap
  | [], n, h1, h2 => ⟨h1, h2⟩
  | x :: xs, n, h1, h2 => by
    have hb := getD_bound hc x.To.toNat
    exact crow_bound hc xs (mn_ge (by omega) (by simp [cap])) mn_le.1
theorem counts_bound (rows : List (Bool × List TEdge)) : ∀ c ∈ counts rows, 0 ≤ c ∧ c ≤ cap := by
  induction rows using snoc_ind with
  | h0 => intro c hc; simp [counts] at hc
  | h1 rows p ih =>
    intro c hc
    rw [counts_snoc] at hc
    rcases List.mem_append.1 hc with hc | hc
    · exact ih c hc
    · simp at hc; subst hc
      exact crow_bound ih _ (by split <;> omega) (by split <;> simp [cap])
theorem counts_take (rows : List (Bool × List TEdge)) (s : Nat) : counts (rows.take s) = (counts rows).take s := by
  induction rows using snoc_ind with
  | h0 => simp [counts]
  | h1 rows p ih =>
    by_cases h : s ≤ rows.length
    · rw [List.take_append_of_le_length h, ih, counts_snoc, List.take_append_of_le_length (by rw [counts_len]; exact h)]
    · rw [List.take_of_length_le (by simp; omega), List.take_of_length_le (by rw [counts_len]; simp; omega)]
theorem rows_at {g : TGraph} {s : Nat} {f : Bool} {xs : List TEdge} (h1 : g.Final[s]? = some f) (h2 : g.Edges[s]? = some xs) : (rowsOf g)[s]? = some (f, xs) := by
  simp [rowsOf, List.zip, List.getElem?_zipWith, h1, h2]
theorem rows_len {g : TGraph} (h : g.Edges.length = g.Final.length) : (rowsOf g).length = g.Final.length := by simp [rowsOf, h]
theorem take_snoc {α : Type} {l : List α} {s : Nat} {x : α} (h : l[s]? = some x) : l.take (s + 1) = l.take s ++ [x] := by
  rw [List.take_add_one, h]; rfl
theorem counts_next {g : TGraph} {s : Nat} {f : Bool} {xs : List TEdge} (h1 : g.Final[s]? = some f) (h2 : g.Edges[s]? = some xs) : counts ((rowsOf g).take (s + 1)) = counts ((rowsOf g).take s) ++ [crow (counts ((rowsOf g).take s)) (if f then 1 else 0) xs] := by
  rw [take_snoc (rows_at h1 h2), counts_snoc]; rfl
theorem crow_snoc {cs : List Int} {n : Int} {xs : List TEdge} {x : TEdge} : crow cs n (xs ++ [x]) = mn (crow cs n xs + cs.getD x.To.toNat 0) cap := by simp [crow]

/-- The document's Count. -/
theorem ref_Count_row {g : TGraph} {s : Nat} {xs : List TEdge} {f : Bool} (hg : g.Edges[s]? = some xs) (hf : g.Final[s]? = some f) (hs : s < 65536) (hl : xs.length ≤ 140737488355328) (hr : RowOk s xs) (hlen : s ≤ (rowsOf g).length) {n : Int} (hn : n = if f then 1 else 0) :
    Loop (scansionref17_Count.b2 g (counts ((rowsOf g).take s)) s) (n, 0) = some (.next (counts ((rowsOf g).take (s + 1)), ((s + 1 : Nat) : Int))) := by
  have hcl : (counts ((rowsOf g).take s)).length = s := by rw [counts_len]; simp; omega
  have hcb := counts_bound ((rowsOf g).take s)
  generalize hcs : counts ((rowsOf g).take s) = cs at *
  have := Loop_run (b := scansionref17_Count.b2 g cs s) (fun k => (crow cs n (xs.take k), (k : Int))) (i := 0) (n := xs.length) (Nat.zero_le _) (fun k _ hk => by
    have hx : xs[k]? = some xs[k] := List.getElem?_eq_getElem hk
    have hok := hr k hk _ hx
    have hb := crow_bound hcb (xs.take k) (n := n) (by rw [hn]; split <;> omega) (by rw [hn]; split <;> simp [cap])
    have hc : cs[xs[k].To.toNat]? = some (cs[xs[k].To.toNat]'(by omega)) := List.getElem?_eq_getElem _
    have hgd : cs.getD xs[k].To.toNat 0 = cs[xs[k].To.toNat]'(by omega) := by rw [List.getD_eq_getElem?_getD, hc]; rfl
    have hb2 := getD_bound hcb xs[k].To.toNat
    rw [scansionref17_Count.b2, idx_nat, hg, Option.bind_some, if_pos (by simp; omega), idx_nat, hx, Option.bind_some, idx_some hok.1 hc, Option.bind_some, w64s (by omega), take_snoc hx, crow_snoc, hgd]
    rw [hgd] at hb2
    simp only [cap] at hb hb2
    rw [w64 (by omega) (by omega)]
    rfl)
  simp only [List.take_zero, List.take_length] at this
  have e0 : crow cs n [] = n := rfl
  rw [e0] at this
  rw [show ((0 : Nat) : Int) = 0 from rfl] at this
  rw [this]
  apply Loop_end
  rw [scansionref17_Count.b2, idx_nat, hg, Option.bind_some, if_neg (by simp)]
  unfold scansionref17_Count.k4 scansionref17_Count.k2
  rw [room_ok (by omega), Option.bind_some, w64s (by omega), counts_next hf hg, hcs, hn]
theorem ref_Count_eq {g : TGraph} (hs : Short g) (hr : RightP g) : scansionref17_Count g = some (counts (rowsOf g), 0) := by
  unfold scansionref17_Count
  rw [ref_Right_eq hs, Option.bind_some, if_neg (by simp [hr])]
  have hl := rows_len hr.len
  have := Loop_run (b := scansionref17_Count.b1 g) (fun s => (counts ((rowsOf g).take s), (s : Int))) (i := 0) (n := g.Final.length) (Nat.zero_le _) (fun s _ hlt => by
    have h1 : g.Final[s]? = some g.Final[s] := List.getElem?_eq_getElem hlt
    have h2 : g.Edges[s]? = some (g.Edges[s]'(by have := hr.len; omega)) := List.getElem?_eq_getElem _
    have hrow := hr.rows s (by have := hr.len; omega) _ h2
    have hi := hr.hi
    rw [scansionref17_Count.b1, if_pos (by simp; omega), idx_nat, h1, Option.bind_some]
    split
    · rename_i hf
      exact ref_Count_row h2 h1 (by omega) (hs _ (List.getElem_mem _)) hrow (by omega) (by simp [hf])
    · rename_i hf
      exact ref_Count_row h2 h1 (by omega) (hs _ (List.getElem_mem _)) hrow (by omega) (by simp [hf]))
  simp only [List.take_zero] at this
  rw [show ((0 : Nat) : Int) = 0 from rfl] at this
  rw [show counts [] = [] from rfl] at this
  rw [this]
  apply Loop_end
  rw [scansionref17_Count.b1, if_neg (by simp)]
  unfold scansionref17_Count.k1
  rw [List.take_of_length_le (by omega)]
/-- The program's Count: the list is there from the first, and filled. -/
def filled (cs : List Int) (n : Nat) : List Int := cs ++ List.replicate (n - cs.length) 0
theorem filled_set {cs : List Int} {n : Nat} {v : Int} (h : cs.length < n) (m : Int) : (cs ++ m :: List.replicate (n - cs.length - 1) 0).set cs.length v = cs ++ v :: List.replicate (n - cs.length - 1) 0 := by
  rw [List.set_append_right _ _ (Nat.le_refl _)]; simp
theorem filled_eq {cs : List Int} {n : Nat} (h : cs.length < n) : filled cs n = cs ++ 0 :: List.replicate (n - cs.length - 1) 0 := by
  unfold filled
  obtain ⟨m, hm⟩ : ∃ m, n - cs.length = m + 1 := ⟨n - cs.length - 1, by omega⟩
  rw [hm]; simp [List.replicate_succ]
theorem filled_snoc {cs : List Int} {n : Nat} {v : Int} (h : cs.length < n) : cs ++ v :: List.replicate (n - cs.length - 1) 0 = filled (cs ++ [v]) n := by
  unfold filled
  simp only [List.length_append, List.length_cons, List.length_nil, List.append_assoc, List.cons_append, List.nil_append]
  congr 3
theorem dawg_Count_row {g : TGraph} {s N : Nat} {xs : List TEdge} {f : Bool} (hg : g.Edges[s]? = some xs) (hf : g.Final[s]? = some f) (hs : s < N) (hN : N ≤ 65536) (hl : xs.length ≤ 140737488355328) (hr : RowOk s xs) (hlen : s ≤ (rowsOf g).length) {n : Int} (hn : n = if f then 1 else 0) {cs : List Int} (hcs : counts ((rowsOf g).take s) = cs) :
    Loop (dawg_Count.b2 s xs) (cs ++ n :: List.replicate (N - cs.length - 1) 0, 0) = some (.next (filled (counts ((rowsOf g).take (s + 1))) N, ((s + 1 : Nat) : Int))) := by
  have hcl : cs.length = s := by rw [← hcs, counts_len]; simp; omega
  have hcb : ∀ c ∈ cs, 0 ≤ c ∧ c ≤ cap := by rw [← hcs]; exact counts_bound _
  have := Loop_run (b := dawg_Count.b2 s xs) (fun k => (cs ++ crow cs n (xs.take k) :: List.replicate (N - cs.length - 1) 0, (k : Int))) (i := 0) (n := xs.length) (Nat.zero_le _) (fun k _ hk => by
    have hx : xs[k]? = some xs[k] := List.getElem?_eq_getElem hk
    have hok := hr k hk _ hx
    have hb := crow_bound hcb (xs.take k) (n := n) (by rw [hn]; split <;> omega) (by rw [hn]; split <;> simp [cap])
    have hc : cs[xs[k].To.toNat]? = some (cs[xs[k].To.toNat]'(by omega)) := List.getElem?_eq_getElem _
    have hgd : cs.getD xs[k].To.toNat 0 = cs[xs[k].To.toNat]'(by omega) := by rw [List.getD_eq_getElem?_getD, hc]; rfl
    have hb2 := getD_bound hcb xs[k].To.toNat
    have r1 : (cs ++ crow cs n (xs.take k) :: List.replicate (N - cs.length - 1) 0)[s]? = some (crow cs n (xs.take k)) := by
      rw [List.getElem?_append_right (by omega), hcl, Nat.sub_self]; rfl
    have r2 : (cs ++ crow cs n (xs.take k) :: List.replicate (N - cs.length - 1) 0)[xs[k].To.toNat]? = some (cs[xs[k].To.toNat]'(by omega)) := by
      rw [List.getElem?_append_left (by omega)]; exact hc
    rw [dawg_Count.b2, if_pos (by simp; omega), idx_nat, hx, Option.bind_some, idx_nat, r1, Option.bind_some, idx_some hok.1 r2, Option.bind_some, w64s (by omega), take_snoc hx, crow_snoc, hgd]
    rw [hgd] at hb2
    simp only [cap] at hb hb2
    rw [w64 (by omega) (by omega), Int.toNat_natCast]
    have e : ∀ v, (cs ++ crow cs n (List.take k xs) :: List.replicate (N - cs.length - 1) 0).set s v = cs ++ v :: List.replicate (N - cs.length - 1) 0 := fun v => by
      have := filled_set (cs := cs) (n := N) (v := v) (by omega) (crow cs n (List.take k xs))
      rwa [hcl] at this ⊢
    rw [e]
    rfl)
  simp only [List.take_zero, List.take_length] at this
  have e0 : crow cs n [] = n := rfl
  rw [e0, show ((0 : Nat) : Int) = 0 from rfl] at this
  rw [this]
  apply Loop_end
  rw [dawg_Count.b2, if_neg (by simp)]
  unfold dawg_Count.k2
  rw [w64s (by omega), counts_next hf hg, hcs, ← hn, filled_snoc (by omega)]
theorem dawg_Count_eq {g : TGraph} (hs : Short g) (hr : RightP g) : dawg_Count g = some (counts (rowsOf g), 0) := by
  unfold dawg_Count
  have hl := rows_len hr.len
  have hi := hr.hi
  rw [dawg_Right_eq hs, Option.bind_some, if_neg (by simp [hr]), mk_ok (by omega), Option.bind_some]
  have := Loop_run (b := dawg_Count.b1 g) (fun s => (filled (counts ((rowsOf g).take s)) g.Final.length, (s : Int))) (i := 0) (n := g.Final.length) (Nat.zero_le _) (fun s _ hlt => by
    have h1 : g.Final[s]? = some g.Final[s] := List.getElem?_eq_getElem hlt
    have h2 : g.Edges[s]? = some (g.Edges[s]'(by have := hr.len; omega)) := List.getElem?_eq_getElem _
    have hrow := hr.rows s (by have := hr.len; omega) _ h2
    have hcl : (counts ((rowsOf g).take s)).length = s := by rw [counts_len]; simp; omega
    have hfe := filled_eq (cs := counts ((rowsOf g).take s)) (n := g.Final.length) (by omega)
    rw [dawg_Count.b1, if_pos (by have := hr.len; simp; omega), idx_nat, h2, Option.bind_some, idx_nat, h1, Option.bind_some]
    split
    · rename_i hf
      have h3 : (filled (counts ((rowsOf g).take s)) g.Final.length)[s]? = some 0 := by
        rw [hfe, List.getElem?_append_right (by omega), hcl, Nat.sub_self]; rfl
      rw [idx_nat, h3, Option.bind_some, Int.toNat_natCast, hfe]
      have e := filled_set (cs := counts ((rowsOf g).take s)) (n := g.Final.length) (v := 1) (by omega) 0
      rw [hcl] at e
      unfold dawg_Count.k3
      rw [hcl, e]
      have := dawg_Count_row (N := g.Final.length) h2 h1 hlt hi (hs _ (List.getElem_mem _)) hrow (by omega) (n := 1) (by simp [hf]) rfl
      rwa [hcl] at this
    · rename_i hf
      unfold dawg_Count.k3
      rw [hfe]
      exact dawg_Count_row (N := g.Final.length) h2 h1 hlt hi (hs _ (List.getElem_mem _)) hrow (by omega) (n := 0) (by simp [hf]) rfl)
  have e0 : filled (counts ((rowsOf g).take 0)) g.Final.length = List.replicate (Int.toNat (g.Final.length : Int)) 0 := by simp [filled, counts]
  simp only [e0] at this
  rw [show ((0 : Nat) : Int) = 0 from rfl] at this
  rw [this]
  apply Loop_end
  rw [dawg_Count.b1, if_neg (by have := hr.len; simp; omega)]
  unfold dawg_Count.k1
  rw [List.take_of_length_le (by omega)]
  simp [filled, counts_len, hl]
theorem dawg_Count_bad {g : TGraph} (hs : Short g) (hr : ¬ RightP g) : dawg_Count g = some ([], 1) := by
  unfold dawg_Count
  rw [dawg_Right_eq hs, Option.bind_some, if_pos (by simp [hr])]
end Go.Val

/- part P4 -/
/- Plain lemmas: a state has as many ends as those that it leads to (DawgSum). -/
namespace Go.Val
set_option linter.unusedVariables false
theorem Few_eq (g : TGraph) (m : Nat) (hm : m ≤ 1000) : ∃ b, scansionref17_Few g m = some b ∧ (b = true → g.Final.length ≤ m ∧ g.Edges.length ≤ m ∧ ∀ xs ∈ g.Edges, xs.length ≤ 300) := by
  unfold scansionref17_Few
  split
  · exact ⟨false, rfl, fun h => by cases h⟩
  · rename_i h
    simp at h
    obtain ⟨k1, k2⟩ := Loop_all0 (b := scansionref17_Few.b1 g) (fun s => ∀ xs, g.Edges[s]? = some xs → xs.length ≤ 300) g.Edges.length (r := false) (R := true) (fun s hlt hp => by
        have hx : g.Edges[s]? = some g.Edges[s] := List.getElem?_eq_getElem hlt
        have := hp _ hx
        unfold scansionref17_Few.b1
        rw [if_pos (by simp; omega), idx_nat, hx, Option.bind_some, if_neg (by simp; omega), w64s (by omega)])
      (fun s hlt hp => by
        have hx : g.Edges[s]? = some g.Edges[s] := List.getElem?_eq_getElem hlt
        have : ¬ g.Edges[s].length ≤ 300 := fun h => hp fun xs he => by rw [hx] at he; cases he; exact h
        unfold scansionref17_Few.b1
        rw [if_pos (by simp; omega), idx_nat, hx, Option.bind_some, if_pos (by simp; omega)])
      (by unfold scansionref17_Few.b1; rw [if_neg (by simp)]; rfl)
    by_cases hall : ∀ s, s < g.Edges.length → ∀ xs, g.Edges[s]? = some xs → xs.length ≤ 300
    · exact ⟨true, k1 hall, fun _ => ⟨by omega, by omega, fun xs hx => by
        obtain ⟨i, hi⟩ := List.getElem?_of_mem hx
        exact hall i (List.getElem?_eq_some_iff.1 hi).1 xs hi⟩⟩
    · exact ⟨false, k2 hall, fun h => by cases h⟩
def sumTo (cs : List Int) (n : Int) (xs : List TEdge) : Int := xs.foldl (fun n x => n + cs.getD x.To.toNat 0) n
theorem sumTo_snoc {cs : List Int} {n : Int} {xs : List TEdge} {x : TEdge} : sumTo cs n (xs ++ [x]) = sumTo cs n xs + cs.getD x.To.toNat 0 := by simp [sumTo]
theorem sumTo_bound {cs : List Int} (hc : ∀ c ∈ cs, 0 ≤ c ∧ c ≤ cap) {n : Int} (h1 : 0 ≤ n) (h2 : n ≤ 1) (xs : List TEdge) : 0 ≤ sumTo cs n xs ∧ sumTo cs n xs ≤ 1 + xs.length * cap := by
  induction xs using snoc_ind with
  | h0 => simp [sumTo]; omega
  | h1 xs x ih =>
    rw [sumTo_snoc]
    have := getD_bound hc x.To.toNat
    simp only [List.length_append, List.length_cons, List.length_nil, cap] at *
    omega
theorem crow_sum {cs : List Int} (hc : ∀ c ∈ cs, 0 ≤ c ∧ c ≤ cap) {n : Int} (h1 : 0 ≤ n) (h2 : n ≤ 1) (xs : List TEdge) : crow cs n xs = mn (sumTo cs n xs) cap := by
  induction xs using snoc_ind with
  | h0 =>
    show n = mn n cap
    unfold mn cap; split <;> omega
  | h1 xs x ih =>
    rw [crow_snoc, sumTo_snoc, ih]
    have := getD_bound hc x.To.toNat
    have := sumTo_bound hc h1 h2 xs
    unfold mn
    repeat' split
    all_goals omega
theorem sumTo_congr {cs cs' : List Int} {xs : List TEdge} {n : Int} (h : ∀ x ∈ xs, cs.getD x.To.toNat 0 = cs'.getD x.To.toNat 0) : sumTo cs n xs = sumTo cs' n xs := by
  induction xs using snoc_ind with
  | h0 => rfl
  | h1 xs x ih => rw [sumTo_snoc, sumTo_snoc, ih fun y hy => h y (by simp [hy]), h x (by simp)]

end Go.Val

/- part P5 -/
/- Plain lemmas: looking for one in a list; keys; the two words of 'awake'. -/
namespace Go.Val
set_option linter.unusedVariables false
def find {α : Type} (g : α → Bool) (l : List α) : Int := if l.findIdx g < l.length then (l.findIdx g : Int) else -1
theorem IndexFunc_str {s : List Str} {f : Str → Option Bool} {g : Str → Bool} (hf : ∀ x ∈ s, f x = some (g x)) (hl : s.length ≤ 140737488355328) : slices_IndexFunc_string_string s f = some (find g s) := by
  unfold slices_IndexFunc_string_string
  have hle : s.findIdx g ≤ s.length := List.findIdx_le_length
  have := Loop_int (b := slices_IndexFunc_string_string.b1 s f) (i := 0) (n := s.findIdx g) (Nat.zero_le _) (fun j _ hj => by
    have hlt : j < s.length := by omega
    have hx : s[j]? = some s[j] := List.getElem?_eq_getElem hlt
    have hg : g s[j] = false := by simpa using List.not_of_lt_findIdx hj
    rw [slices_IndexFunc_string_string.b1, if_pos (by simp; omega), idx_nat, hx, Option.bind_some, hf _ (List.getElem_mem _), Option.bind_some, if_neg (by simp [hg]), w64s (by omega)])
  rw [show ((0 : Nat) : Int) = 0 from rfl] at this
  rw [this]
  unfold find
  by_cases h : s.findIdx g < s.length
  · rw [if_pos h]
    apply Loop_done
    have hx : s[s.findIdx g]? = some s[s.findIdx g] := List.getElem?_eq_getElem h
    have hg : g s[s.findIdx g] = true := List.findIdx_getElem
    rw [slices_IndexFunc_string_string.b1, if_pos (by rw [decide_eq_true_eq]; omega), idx_nat, hx, Option.bind_some, hf _ (List.getElem_mem _), Option.bind_some, if_pos hg]
  · rw [if_neg h]
    apply Loop_done
    rw [slices_IndexFunc_string_string.b1, if_neg (by rw [decide_eq_true_eq]; omega)]
    rfl
theorem IndexFunc_edge {s : List TEdge} {f : TEdge → Option Bool} {g : TEdge → Bool} (hf : ∀ x ∈ s, f x = some (g x)) (hl : s.length ≤ 140737488355328) : slices_IndexFunc_api_Edge_api_Edge s f = some (find g s) := by
  unfold slices_IndexFunc_api_Edge_api_Edge
  have hle : s.findIdx g ≤ s.length := List.findIdx_le_length
  have := Loop_int (b := slices_IndexFunc_api_Edge_api_Edge.b1 s f) (i := 0) (n := s.findIdx g) (Nat.zero_le _) (fun j _ hj => by
    have hlt : j < s.length := by omega
    have hx : s[j]? = some s[j] := List.getElem?_eq_getElem hlt
    have hg : g s[j] = false := by simpa using List.not_of_lt_findIdx hj
    rw [slices_IndexFunc_api_Edge_api_Edge.b1, if_pos (by simp; omega), idx_nat, hx, Option.bind_some, hf _ (List.getElem_mem _), Option.bind_some, if_neg (by simp [hg]), w64s (by omega)])
  rw [show ((0 : Nat) : Int) = 0 from rfl] at this
  rw [this]
  unfold find
  by_cases h : s.findIdx g < s.length
  · rw [if_pos h]
    apply Loop_done
    have hx : s[s.findIdx g]? = some s[s.findIdx g] := List.getElem?_eq_getElem h
    have hg : g s[s.findIdx g] = true := List.findIdx_getElem
    rw [slices_IndexFunc_api_Edge_api_Edge.b1, if_pos (by rw [decide_eq_true_eq]; omega), idx_nat, hx, Option.bind_some, hf _ (List.getElem_mem _), Option.bind_some, if_pos hg]
  · rw [if_neg h]
    apply Loop_done
    rw [slices_IndexFunc_api_Edge_api_Edge.b1, if_neg (by rw [decide_eq_true_eq]; omega)]
    rfl
/-- A key's bytes of an edge. -/
def kb (x : TEdge) : List UInt8 := [x.Label, u8 (IntKind.u8.wrap (shR .i64 x.To 24)), u8 (IntKind.u8.wrap (shR .i64 x.To 16)), u8 (IntKind.u8.wrap (shR .i64 x.To 8)), u8 (IntKind.u8.wrap x.To)]
def keyOf (f : Bool) (es : List TEdge) : List UInt8 := (if f then 1 else 0) :: es.flatMap kb
theorem key_loop {es : List TEdge} {out : List UInt8} (ho : out.length = 1) (hl : es.length ≤ 1000000) : dawg_key.k1 es out = some (out ++ es.flatMap kb) := by
  unfold dawg_key.k1
  have hlen : ∀ k, k ≤ es.length → (out ++ (es.take k).flatMap kb).length = 1 + 5 * k := fun k hk => by
    rw [List.length_append, ho]
    have : ∀ l : List TEdge, (l.flatMap kb).length = 5 * l.length := by
      intro l
      induction l with
      | nil => rfl
      | cons x l ih => simp [kb] at ih ⊢; omega
    rw [this, List.length_take, Nat.min_eq_left hk]
  have := Loop_run (b := dawg_key.b1 es) (fun k => (out ++ (es.take k).flatMap kb, (k : Int))) (i := 0) (n := es.length) (Nat.zero_le _) (fun k _ hk => by
    have hx : es[k]? = some es[k] := List.getElem?_eq_getElem hk
    rw [dawg_key.b1, if_pos (by simp; omega), idx_nat, hx, Option.bind_some, room_ok (by rw [hlen k (by omega)]; omega), Option.bind_some, w64s (by omega), take_snoc hx]
    simp only [List.flatMap_append, List.flatMap_cons, List.flatMap_nil, List.append_nil, kb, List.append_assoc])
  simp only [List.take_zero, List.take_length, List.flatMap_nil, List.append_nil] at this
  rw [show ((0 : Nat) : Int) = 0 from rfl] at this
  rw [this]
  apply Loop_end
  rw [dawg_key.b1, if_neg (by simp)]
  rfl
theorem key_eq {f : Bool} {es : List TEdge} (hl : es.length ≤ 1000000) : dawg_key f es = some (keyOf f es) := by
  unfold dawg_key
  cases f with
  | true =>
    rw [if_pos rfl]
    simp only [List.getElem?_cons_zero, Option.bind_some]
    rw [key_loop (by simp) hl]
    rfl
  | false =>
    rw [if_neg (by simp), key_loop rfl hl]
    rfl

/-! ### two words -/
def wA : Str := [97, 98]
def wB : Str := [99, 98]
theorem label_f {s : Str} {i : Nat} {c d : UInt8} (h : s[i]? = some d) : dawg_builder_state_1 s (i : Int) c = some ((d.toNat : Int) != (c.toNat : Int)) := by
  unfold dawg_builder_state_1; rw [idx_nat, h]; rfl
theorem st_end (k : Nat) (b : Tdawg_builder) (s : Str) (hs : s.length = 2) {i : Int} {b' : Tdawg_builder} (h : dawg_builder_state.k2 true [] b.Graph.Final b.Graph.Edges b.known = some (i, b')) : dawg_builder_state.r (k + 1) b [s] 2 = some (i, b') := by
  rw [dawg_builder_state.r]
  simp only [List.length_cons, List.length_nil, List.getElem?_cons_zero, Option.bind_some, hs]
  simp only [dawg_builder_state.k1, cutL]
  simp
  apply Loop_end
  rw [dawg_builder_state.b1, if_neg (by simp), h]
theorem st_one (k : Nat) (b b1 b2 : Tdawg_builder) (c : UInt8) {i j : Int} (h1 : dawg_builder_state.r (k + 1) b [[c, 98]] 2 = some (i, b1)) (h2 : dawg_builder_state.k2 false [⟨98, i⟩] b1.Graph.Final b1.Graph.Edges b1.known = some (j, b2)) :
    dawg_builder_state.r (k + 2) b [[c, 98]] 1 = some (j, b2) := by
  rw [dawg_builder_state.r]
  have e1 : ((([[c, 98]] : List Str).length : Int) > 0) := by simp
  rw [if_pos (by simp)]
  simp only [List.getElem?_cons_zero, Option.bind_some]
  rw [if_neg (by simp)]
  unfold dawg_builder_state.k1
  have hf : slices_IndexFunc_string_string [[c, 98]] (fun x0 => dawg_builder_state_1 x0 1 98) = some (-1) := by
    rw [IndexFunc_str (g := fun _ => false) (fun x hx => by
      simp at hx; subst hx
      exact label_f (i := 1) (d := 98) rfl) (by simp)]
    rfl
  have step : dawg_builder_state.b1 (dawg_builder_state.r (k + 1)) 1 false ([[c, 98]], [], b.Graph.Final, b.Graph.Edges, b.known) = some (.next ([], [⟨98, i⟩], b1.Graph.Final, b1.Graph.Edges, b1.known)) := by
    rw [dawg_builder_state.b1, if_pos (by simp)]
    simp only [List.getElem?_cons_zero, Option.bind_some]
    rw [show (1 : Int) = ((1 : Nat) : Int) from rfl, idx_nat]
    simp only [List.getElem?_cons_succ, List.getElem?_cons_zero, Option.bind_some]
    rw [show ((1 : Nat) : Int) = 1 from rfl, hf, Option.bind_some, if_pos (by simp)]
    unfold dawg_builder_state.k4
    have ew : IntKind.i64.wrap (1 + 1) = 2 := by rw [w64] <;> omega
    simp only [List.length_cons, List.length_nil, cutH, cutL, ew]
    simp [h1, room_ok]
  change Loop (dawg_builder_state.b1 (dawg_builder_state.r (k + 1)) 1 false) _ = _
  rw [Loop_next step]
  apply Loop_end
  rw [dawg_builder_state.b1, if_neg (by simp), h2]
def bF : Tdawg_builder := ⟨⟨[true], [[]]⟩, [([1], 0)]⟩
def bG : Tdawg_builder := ⟨⟨[true, false], [[], [⟨98, 0⟩]]⟩, [([1], 0), ([0, 98, 0, 0, 0, 0], 1)]⟩
def bH : Tdawg_builder := ⟨⟨[true, false, false], [[], [⟨98, 0⟩], [⟨97, 1⟩, ⟨99, 1⟩]]⟩, [([1], 0), ([0, 98, 0, 0, 0, 0], 1), ([0, 97, 0, 0, 0, 1, 99, 0, 0, 0, 1], 2)]⟩
theorem kk1 : keyOf true [] = [1] := rfl
theorem kk2 : keyOf false [⟨98, 0⟩] = [0, 98, 0, 0, 0, 0] := by decide
theorem kk3 : keyOf false [⟨97, 1⟩, ⟨99, 1⟩] = [0, 97, 0, 0, 0, 1, 99, 0, 0, 0, 1] := by decide
theorem s1 : dawg_builder_state.k2 true [] [] [] [] = some (0, bF) := by
  unfold dawg_builder_state.k2
  rw [key_eq (by simp), Option.bind_some, kk1]
  simp [aget, room_ok, dawg_builder_state.k3, aput, bF]
theorem s2 : dawg_builder_state.k2 true [] bG.Graph.Final bG.Graph.Edges bG.known = some (0, bG) := by
  unfold dawg_builder_state.k2
  rw [key_eq (by simp), Option.bind_some, kk1]
  simp [aget, room_ok, dawg_builder_state.k3, aput, bG]
theorem s3 : dawg_builder_state.k2 false [⟨98, 0⟩] bF.Graph.Final bF.Graph.Edges bF.known = some (1, bG) := by
  unfold dawg_builder_state.k2
  rw [key_eq (by simp), Option.bind_some, kk2]
  simp [aget, room_ok, dawg_builder_state.k3, aput, bG, bF]
theorem s4 : dawg_builder_state.k2 false [⟨98, 0⟩] bG.Graph.Final bG.Graph.Edges bG.known = some (1, bG) := by
  unfold dawg_builder_state.k2
  rw [key_eq (by simp), Option.bind_some, kk2]
  simp [aget, room_ok, dawg_builder_state.k3, aput, bG, bF]
theorem s5 : dawg_builder_state.k2 false [⟨97, 1⟩, ⟨99, 1⟩] bG.Graph.Final bG.Graph.Edges bG.known = some (2, bH) := by
  unfold dawg_builder_state.k2
  rw [key_eq (by simp), Option.bind_some, kk3]
  simp [aget, room_ok, dawg_builder_state.k3, aput, bG, bH]
theorem stA (k : Nat) : dawg_builder_state.r (k + 2) ⟨⟨[], []⟩, []⟩ [wA] 1 = some (1, bG) := st_one k _ bF bG 97 (st_end k _ _ rfl s1) s3
theorem stB (k : Nat) : dawg_builder_state.r (k + 2) bG [wB] 1 = some (1, bG) := st_one k _ bG bG 99 (st_end k _ _ rfl s2) s4
theorem stAB (k : Nat) : dawg_builder_state.r (k + 3) ⟨⟨[], []⟩, []⟩ [wA, wB] 0 = some (2, bH) := by
  rw [dawg_builder_state.r]
  rw [if_pos (by simp)]
  simp only [List.getElem?_cons_zero, Option.bind_some]
  rw [if_neg (by simp [wA])]
  unfold dawg_builder_state.k1
  have hfA : slices_IndexFunc_string_string [wA, wB] (fun x0 => dawg_builder_state_1 x0 0 97) = some 1 := by
    rw [IndexFunc_str (g := fun s => s == wB) (fun x hx => by
      simp at hx
      rcases hx with rfl | rfl
      · exact label_f (i := 0) (d := 97) rfl
      · exact label_f (i := 0) (d := 99) rfl) (by simp)]
    rfl
  have hfB : slices_IndexFunc_string_string [wB] (fun x0 => dawg_builder_state_1 x0 0 99) = some (-1) := by
    rw [IndexFunc_str (g := fun s => false) (fun x hx => by
      simp at hx; subst hx
      exact label_f (i := 0) (d := 99) rfl) (by simp)]
    rfl
  have ew : IntKind.i64.wrap (0 + 1) = 1 := by rw [w64] <;> omega
  have step1 : dawg_builder_state.b1 (dawg_builder_state.r (k + 2)) 0 false ([wA, wB], [], [], [], []) = some (.next ([wB], [⟨97, 1⟩], bG.Graph.Final, bG.Graph.Edges, bG.known)) := by
    rw [dawg_builder_state.b1, if_pos (by simp)]
    simp only [List.getElem?_cons_zero, Option.bind_some]
    rw [show (0 : Int) = ((0 : Nat) : Int) from rfl, idx_nat, show wA[0]? = some 97 from rfl, Option.bind_some]
    rw [show ((0 : Nat) : Int) = 0 from rfl, hfA, Option.bind_some, if_neg (by simp)]
    unfold dawg_builder_state.k4
    simp only [List.length_cons, List.length_nil, cutH, cutL, ew]
    simp [stA, room_ok]
  have step2 : dawg_builder_state.b1 (dawg_builder_state.r (k + 2)) 0 false ([wB], [⟨97, 1⟩], bG.Graph.Final, bG.Graph.Edges, bG.known) = some (.next ([], [⟨97, 1⟩, ⟨99, 1⟩], bG.Graph.Final, bG.Graph.Edges, bG.known)) := by
    rw [dawg_builder_state.b1, if_pos (by simp)]
    simp only [List.getElem?_cons_zero, Option.bind_some]
    rw [show (0 : Int) = ((0 : Nat) : Int) from rfl, idx_nat, show wB[0]? = some 99 from rfl, Option.bind_some]
    rw [show ((0 : Nat) : Int) = 0 from rfl, hfB, Option.bind_some, if_pos (by simp)]
    unfold dawg_builder_state.k4
    have e : dawg_builder_state.r (k + 2) ⟨⟨bG.Graph.Final, bG.Graph.Edges⟩, bG.known⟩ [wB] 1 = some (1, bG) := stB k
    simp only [List.length_cons, List.length_nil, cutH, cutL, ew]
    simp [e, room_ok]
  change Loop (dawg_builder_state.b1 (dawg_builder_state.r (k + 2)) 0 false) _ = _
  rw [Loop_next step1, Loop_next step2]
  apply Loop_end
  rw [dawg_builder_state.b1, if_neg (by simp), s5]
theorem rise2 : dawg_rise [wA, wB] = some true := by
  unfold dawg_rise
  have step : dawg_rise.b1 [wA, wB] 1 = some (.next 2) := by
    unfold dawg_rise.b1
    have ew : IntKind.i64.wrap (1 - 1) = ((0 : Nat) : Int) := by rw [w64] <;> simp
    have ew2 : IntKind.i64.wrap (1 + 1) = 2 := by rw [w64] <;> omega
    rw [if_pos (by simp), ew, idx_nat, show (1 : Int) = ((1 : Nat) : Int) from rfl, idx_nat]
    simp only [List.getElem?_cons_succ, List.getElem?_cons_zero, Option.bind_some]
    rw [if_neg (by decide)]
    rw [show ((1 : Nat) : Int) = 1 from rfl, ew2]
  rw [Loop_next step]
  apply Loop_end
  unfold dawg_rise.b1
  rw [if_neg (by simp)]
  unfold dawg_rise.k1
  have hc : slices_ContainsFunc_string_string [wA, wB] dawg_rise_1 = some false := by
    unfold slices_ContainsFunc_string_string
    rw [IndexFunc_str (g := fun _ => false) (fun x hx => by
      simp at hx
      rcases hx with rfl | rfl <;> rfl) (by simp)]
    rfl
  simp [hc]
theorem Build2 : dawg_Build [wA, wB] = some (bH.Graph, 0) := by
  unfold dawg_Build
  have hs : dawg_builder_state ⟨⟨[], []⟩, []⟩ [wA, wB] 0 = some (2, bH) := lim_eq 3 fun k hk => by
    obtain ⟨j, rfl⟩ : ∃ j, k = j + 3 := ⟨k - 3, by omega⟩
    exact stAB j
  rw [rise2, Option.bind_some, if_neg (by simp), hs]
  rfl
theorem lab_f {x : TEdge} {s : Str} {i : Nat} {d : UInt8} (h : s[i]? = some d) : dawg_walk_1 x s (i : Int) = some ((x.Label.toNat : Int) == (d.toNat : Int)) := by
  unfold dawg_walk_1; rw [idx_nat, h]; rfl
theorem right2 : RightP bH.Graph where
  lo := by simp [bH]
  hi := by simp [bH]
  len := rfl
  rows := fun s hs xs hx k hk x hx2 => by
    have h3 : s < 3 := hs
    match s, h3 with
    | 0, _ => cases hx; simp at hk
    | 1, _ =>
      cases hx
      match k, hk with
      | 0, _ => cases hx2; exact ⟨by simp, by simp, fun h => by omega⟩
    | 2, _ =>
      cases hx
      match k, hk with
      | 0, _ => cases hx2; exact ⟨by simp, by simp, fun h => by omega⟩
      | 1, _ => cases hx2; exact ⟨by simp, by simp, fun _ x1 h1 => by cases h1; decide⟩
end Go.Val

/- part P6 -/
/- Plain lemmas: walks through a graph; Has. -/
namespace Go.Val
set_option linter.unusedVariables false
theorem lab_eq {a b : UInt8} : (((a.toNat : Int)) == (b.toNat : Int)) = (a == b) := by
  by_cases h : a = b
  · subst h; simp
  · have : a.toNat ≠ b.toNat := fun e => h (UInt8.toNat_inj.1 e)
    have h2 : ((a.toNat : Int)) ≠ (b.toNat : Int) := by omega
    rw [beq_eq_false_iff_ne.2 h, beq_eq_false_iff_ne.2 h2]
def isLab (c : UInt8) (x : TEdge) : Bool := x.Label == c
def nextS (g : TGraph) (s : Int) (c : UInt8) : Option Int := (g.Edges[s.toNat]?).bind fun xs => (xs[xs.findIdx (isLab c)]?).map TEdge.To
def runS (g : TGraph) : Int → Str → Option Int
  | s, [] => some s
  | s, c :: w => (nextS g s c).bind fun t => runS g t w
theorem runS_snoc {g : TGraph} {c : UInt8} : ∀ {w : Str} {s : Int}, runS g s (w ++ [c]) = (runS g s w).bind fun t => nextS g t c
  | [], s => by simp [runS]
  | d :: w, s => by
    simp only [List.cons_append, runS]
    cases nextS g s d with
    | none => rfl
    | some t => exact runS_snoc
/-- Where an edge leads lies below. -/
theorem next_ok {g : TGraph} (hr : RightP g) {s t : Int} {c : UInt8} (h0 : 0 ≤ s) (h1 : s < g.Final.length) (h : nextS g s c = some t) : 0 ≤ t ∧ t < s := by
  unfold nextS at h
  obtain ⟨xs, hx, h⟩ := Option.bind_eq_some_iff.1 h
  obtain ⟨x, hk, rfl⟩ := Option.map_eq_some_iff.1 h
  have hlt := (List.getElem?_eq_some_iff.1 hx).1
  have := hr.rows s.toNat hlt xs hx _ (List.getElem?_eq_some_iff.1 hk).1 x hk
  omega
theorem runS_ok {g : TGraph} (hr : RightP g) : ∀ {w : Str} {s t : Int}, 0 ≤ s → s < g.Final.length → runS g s w = some t → 0 ≤ t ∧ t < g.Final.length
  | [], s, t, h0, h1, h => by simp [runS] at h; omega
  | c :: w, s, t, h0, h1, h => by
    simp only [runS] at h
    obtain ⟨u, hu, h⟩ := Option.bind_eq_some_iff.1 h
    have := next_ok hr h0 h1 hu
    exact runS_ok hr (s := u) this.1 (by omega) h
theorem row_at {g : TGraph} (hr : RightP g) {s : Int} (h0 : 0 ≤ s) (h1 : s < g.Final.length) : ∃ xs, idx g.Edges s = some xs ∧ g.Edges[s.toNat]? = some xs ∧ xs ∈ g.Edges := by
  have hlt : s.toNat < g.Edges.length := by have := hr.len; omega
  have hx : g.Edges[s.toNat]? = some g.Edges[s.toNat] := List.getElem?_eq_getElem hlt
  exact ⟨_, idx_some h0 hx, hx, List.getElem_mem hlt⟩
theorem ref_to_eq {g : TGraph} (hs : Short g) (hr : RightP g) {s : Int} (h0 : 0 ≤ s) (h1 : s < g.Final.length) (c : UInt8) : scansionref17_to g s c = some ((nextS g s c).getD (-1)) := by
  obtain ⟨xs, hi, hx, hm⟩ := row_at hr h0 h1
  have hl := hs xs hm
  unfold scansionref17_to nextS
  rw [hx, Option.bind_some]
  have hle : xs.findIdx (isLab c) ≤ xs.length := List.findIdx_le_length
  have := Loop_int (b := scansionref17_to.b1 g s c) (i := 0) (n := xs.findIdx (isLab c)) (Nat.zero_le _) (fun j _ hj => by
    have hlt : j < xs.length := by omega
    have hj1 : xs[j]? = some xs[j] := List.getElem?_eq_getElem hlt
    have hg : isLab c xs[j] = false := by simpa using List.not_of_lt_findIdx hj
    unfold scansionref17_to.b1
    rw [hi, Option.bind_some, if_pos (by rw [decide_eq_true_eq]; omega), idx_nat, hj1, Option.bind_some, lab_eq, if_neg (by unfold isLab at hg; simp [hg]), w64s (by omega)])
  rw [show ((0 : Nat) : Int) = 0 from rfl] at this
  rw [this]
  by_cases h : xs.findIdx (isLab c) < xs.length
  · have hx1 : xs[xs.findIdx (isLab c)]? = some xs[xs.findIdx (isLab c)] := List.getElem?_eq_getElem h
    have hg : isLab c xs[xs.findIdx (isLab c)] = true := List.findIdx_getElem
    rw [hx1]
    apply Loop_done
    unfold scansionref17_to.b1
    rw [hi, Option.bind_some, if_pos (by rw [decide_eq_true_eq]; omega), idx_nat, hx1, Option.bind_some, lab_eq, if_pos (by unfold isLab at hg; exact hg)]
    rfl
  · rw [List.getElem?_eq_none (by omega)]
    apply Loop_done
    unfold scansionref17_to.b1
    rw [hi, Option.bind_some, if_neg (by rw [decide_eq_true_eq]; omega)]
    rfl
/-- Has: does a word end where it leads? -/
def hasS (g : TGraph) (w : Str) : Bool := ((runS g ((g.Final.length : Int) - 1) w).bind fun s => g.Final[s.toNat]?).getD false
theorem start_w {g : TGraph} (hr : RightP g) : IntKind.i64.wrap ((g.Final.length : Int) - 1) = (g.Final.length : Int) - 1 := by
  have := hr.lo; have := hr.hi; rw [w64 (by omega) (by omega)]
theorem final_at {g : TGraph} {s : Int} (h0 : 0 ≤ s) (h1 : s < g.Final.length) : ∃ b, idx g.Final s = some b ∧ g.Final[s.toNat]? = some b := by
  have hx : g.Final[s.toNat]? = some (g.Final[s.toNat]'(by omega)) := List.getElem?_eq_getElem _
  exact ⟨_, idx_some h0 hx, hx⟩
theorem run_take_next {g : TGraph} {s : Int} {w : Str} {k : Nat} {c : UInt8} (hc : w[k]? = some c) : runS g s (w.take (k + 1)) = (runS g s (w.take k)).bind fun t => nextS g t c := by
  rw [take_snoc hc, runS_snoc]
theorem run_take_none {g : TGraph} {s : Int} {w : Str} {k : Nat} (h : runS g s (w.take k) = none) : ∀ j, k ≤ j → runS g s (w.take j) = none := by
  intro j hj
  induction j with
  | zero => obtain rfl : k = 0 := by omega
            exact h
  | succ j ih =>
    by_cases e : k = j + 1
    · rw [← e]; exact h
    · have := ih (by omega)
      cases hc : w[j]? with
      | none => rw [List.take_of_length_le (by have := List.getElem?_eq_none_iff.1 hc; omega)]; rw [List.take_of_length_le (List.getElem?_eq_none_iff.1 hc)] at this; exact this
      | some c => rw [run_take_next hc, this]; rfl
/-- Either all of a word leads on, or there is a first place from which it doesn't. -/
theorem run_split (g : TGraph) (s : Int) (w : Str) : (∀ k, k ≤ w.length → ∃ t, runS g s (w.take k) = some t) ∨ ∃ k t c, k < w.length ∧ w[k]? = some c ∧ (∀ j, j ≤ k → ∃ t, runS g s (w.take j) = some t) ∧ runS g s (w.take k) = some t ∧ nextS g t c = none := by
  have key : ∀ n, n ≤ w.length → (∀ k, k ≤ n → ∃ t, runS g s (w.take k) = some t) ∨ ∃ k t c, k < n ∧ w[k]? = some c ∧ (∀ j, j ≤ k → ∃ t, runS g s (w.take j) = some t) ∧ runS g s (w.take k) = some t ∧ nextS g t c = none := by
    intro n
    induction n with
    | zero => intro _; exact .inl fun k hk => ⟨s, by obtain rfl : k = 0 := by omega
                                                     rfl⟩
    | succ n ih =>
      intro hn
      rcases ih (by omega) with h | ⟨k, t, c, h1, h2⟩
      · obtain ⟨t, ht⟩ := h n (Nat.le_refl _)
        have hc : w[n]? = some w[n] := List.getElem?_eq_getElem (by omega)
        cases hnx : nextS g t w[n] with
        | none => exact .inr ⟨n, t, w[n], by omega, hc, h, ht, hnx⟩
        | some u =>
          refine .inl fun k hk => ?_
          by_cases e : k = n + 1
          · subst e; exact ⟨u, by rw [run_take_next hc, ht]; exact hnx⟩
          · exact h k (by omega)
      · exact .inr ⟨k, t, c, by omega, h2⟩
  exact key w.length (Nat.le_refl _)
theorem ref_Has_eq {g : TGraph} (hs : Short g) (hr : RightP g) {w : Str} (hw : w.length ≤ 1000) : scansionref17_Has g w = some (hasS g w) := by
  unfold scansionref17_Has
  rw [ref_Right_eq hs, Option.bind_some, if_neg (by simp [hr]), start_w hr]
  have hst0 : 0 ≤ (g.Final.length : Int) - 1 := by have := hr.lo; omega
  have hst1 : (g.Final.length : Int) - 1 < g.Final.length := by omega
  have step : ∀ k t, k < w.length → runS g ((g.Final.length : Int) - 1) (w.take k) = some t → ∀ c, w[k]? = some c → scansionref17_Has.b1 g w (t, (k : Int)) = (match nextS g t c with | some u => some (.next (u, ((k + 1 : Nat) : Int))) | none => some (.done false)) := fun k t hk ht c hc => by
    have hb := runS_ok hr hst0 hst1 ht
    rw [scansionref17_Has.b1, if_pos (by rw [decide_eq_true_eq]; omega), idx_nat, hc, Option.bind_some, ref_to_eq hs hr hb.1 hb.2, Option.bind_some]
    cases hn : nextS g t c with
    | none => rfl
    | some u =>
      have := next_ok hr hb.1 hb.2 hn
      simp only [Option.getD_some]
      rw [if_neg (by rw [decide_eq_true_eq]; omega), w64s (by omega)]
  rcases run_split g ((g.Final.length : Int) - 1) w with hall | ⟨k, t, c, hk, hc, hpre, ht, hn⟩
  · have := Loop_run (b := scansionref17_Has.b1 g w) (fun k => ((runS g ((g.Final.length : Int) - 1) (w.take k)).getD 0, (k : Int))) (i := 0) (n := w.length) (Nat.zero_le _) (fun k _ hk => by
      obtain ⟨t, ht⟩ := hall k (by omega)
      obtain ⟨u, hu⟩ := hall (k + 1) (by omega)
      have hc : w[k]? = some w[k] := List.getElem?_eq_getElem hk
      have hn : nextS g t w[k] = some u := by rw [run_take_next hc, ht] at hu; exact hu
      simp only [ht, hu, Option.getD_some]
      rw [step k t hk ht _ hc, hn])
    simp only [List.take_zero, List.take_length, runS, Option.getD_some] at this
    rw [show ((0 : Nat) : Int) = 0 from rfl] at this
    rw [this]
    obtain ⟨t, ht⟩ := hall w.length (Nat.le_refl _)
    rw [List.take_length] at ht
    have hb := runS_ok hr hst0 hst1 ht
    obtain ⟨b, hb1, hb2⟩ := final_at hb.1 hb.2
    apply Loop_end
    rw [ht, Option.getD_some, scansionref17_Has.b1, if_neg (by rw [decide_eq_true_eq]; omega)]
    unfold scansionref17_Has.k1
    rw [hb1]
    simp [hasS, ht, hb2]
  · have := Loop_run (b := scansionref17_Has.b1 g w) (fun k => ((runS g ((g.Final.length : Int) - 1) (w.take k)).getD 0, (k : Int))) (i := 0) (n := k) (Nat.zero_le _) (fun j _ hj => by
      obtain ⟨t, ht⟩ := hpre j (by omega)
      obtain ⟨u, hu⟩ := hpre (j + 1) (by omega)
      have hc : w[j]? = some (w[j]'(by omega)) := List.getElem?_eq_getElem _
      have hn : nextS g t (w[j]'(by omega)) = some u := by rw [run_take_next hc, ht] at hu; exact hu
      simp only [ht, hu, Option.getD_some]
      rw [step j t (by omega) ht _ hc, hn])
    simp only [List.take_zero, runS, Option.getD_some, ht] at this
    rw [show ((0 : Nat) : Int) = 0 from rfl] at this
    rw [this]
    have hnone : runS g ((g.Final.length : Int) - 1) w = none := by
      have h1 : runS g ((g.Final.length : Int) - 1) (w.take (k + 1)) = none := by rw [run_take_next hc, ht]; exact hn
      have := run_take_none h1 w.length (by omega)
      rwa [List.take_length] at this
    rw [Loop_done (r := false) (by rw [step k t hk ht c hc, hn])]
    simp [hasS, hnone]
end Go.Val

/- part P7 -/
/- Plain lemmas: the farm's walk and Has. -/
namespace Go.Val
set_option linter.unusedVariables false
def stsS (g : TGraph) (s : Int) (w : Str) (j : Nat) : List Int := (List.range (j + 1)).map fun k => (runS g s (w.take k)).getD 0
theorem stsS_len {g : TGraph} {s : Int} {w : Str} {j : Nat} : (stsS g s w j).length = j + 1 := by simp [stsS]
theorem stsS_at {g : TGraph} {s : Int} {w : Str} {j k : Nat} {t : Int} (hk : k ≤ j) (h : runS g s (w.take k) = some t) : idx (stsS g s w j) (k : Int) = some t := by
  rw [idx_nat]
  unfold stsS
  rw [List.getElem?_map, List.getElem?_range (by omega)]
  simp [h]
theorem stsS_snoc {g : TGraph} {s : Int} {w : Str} {j : Nat} {t : Int} (h : runS g s (w.take (j + 1)) = some t) : stsS g s w (j + 1) = stsS g s w j ++ [t] := by
  unfold stsS
  rw [List.range_succ (n := j + 1), List.map_append]
  simp [h]
theorem walk_step {g : TGraph} (hs : Short g) (hr : RightP g) {w : Str} (hw : w.length ≤ 1000000) {s : Int} (h0 : 0 ≤ s) (h1 : s < g.Final.length) {k : Nat} {t : Int} {c : UInt8} (hk : k < w.length) (hc : w[k]? = some c) (ht : runS g s (w.take k) = some t) :
    dawg_walk.b1 g w (stsS g s w k, (k : Int)) = (match nextS g t c with | some u => some (.next (stsS g s w (k + 1), ((k + 1 : Nat) : Int))) | none => some (.done ([], false))) := by
  have hb := runS_ok hr h0 h1 ht
  obtain ⟨xs, hi, hx, hm⟩ := row_at hr hb.1 hb.2
  have hl := hs xs hm
  have hf : slices_IndexFunc_api_Edge_api_Edge xs (fun x0 => dawg_walk_1 x0 w (k : Int)) = some (find (isLab c) xs) :=
    IndexFunc_edge (fun x _ => by rw [lab_f hc, lab_eq]; rfl) hl
  have hlen : (stsS g s w k).length = k + 1 := stsS_len
  rw [dawg_walk.b1, if_pos (by rw [decide_eq_true_eq]; omega), stsS_at (Nat.le_refl _) ht, Option.bind_some, hi, Option.bind_some, hf, Option.bind_some]
  have hn : nextS g t c = (xs[xs.findIdx (isLab c)]?).map TEdge.To := by unfold nextS; rw [hx, Option.bind_some]
  rw [hn]
  by_cases h : xs.findIdx (isLab c) < xs.length
  · have hx1 : xs[xs.findIdx (isLab c)]? = some xs[xs.findIdx (isLab c)] := List.getElem?_eq_getElem h
    have hfd : find (isLab c) xs = (xs.findIdx (isLab c) : Int) := by unfold find; rw [if_pos h]
    have hnext : runS g s (w.take (k + 1)) = some (xs[xs.findIdx (isLab c)]).To := by rw [run_take_next hc, ht, Option.bind_some, hn, hx1]; rfl
    rw [hfd, if_neg (by rw [decide_eq_true_eq]; omega), idx_nat, hx1, Option.bind_some, room_ok (by rw [hlen]; omega), Option.bind_some, w64s (by omega), stsS_snoc hnext]
    rfl
  · have hfd : find (isLab c) xs = -1 := by unfold find; rw [if_neg h]
    rw [hfd, if_pos (by decide), List.getElem?_eq_none (by omega)]
    rfl
/-- The walk: the states on the way, or nothing. -/
theorem dawg_walk_eq {g : TGraph} (hs : Short g) (hr : RightP g) {w : Str} (hw : w.length ≤ 1000000) : dawg_walk g w = some (if (runS g ((g.Final.length : Int) - 1) w).isSome then (stsS g ((g.Final.length : Int) - 1) w w.length, true) else ([], false)) := by
  unfold dawg_walk
  rw [start_w hr]
  have hst0 : 0 ≤ (g.Final.length : Int) - 1 := by have := hr.lo; omega
  have hst1 : (g.Final.length : Int) - 1 < g.Final.length := by omega
  have e0 : [(g.Final.length : Int) - 1] = stsS g ((g.Final.length : Int) - 1) w 0 := by simp [stsS, runS]
  rw [e0]
  rcases run_split g ((g.Final.length : Int) - 1) w with hall | ⟨k, t, c, hk, hc, hpre, ht, hn⟩
  · have := Loop_run (b := dawg_walk.b1 g w) (fun k => (stsS g ((g.Final.length : Int) - 1) w k, (k : Int))) (i := 0) (n := w.length) (Nat.zero_le _) (fun k _ hk => by
      obtain ⟨t, ht⟩ := hall k (by omega)
      obtain ⟨u, hu⟩ := hall (k + 1) (by omega)
      have hc : w[k]? = some w[k] := List.getElem?_eq_getElem hk
      have hn : nextS g t w[k] = some u := by rw [run_take_next hc, ht] at hu; exact hu
      show dawg_walk.b1 g w (stsS g _ w k, (k : Int)) = _
      rw [walk_step hs hr hw hst0 hst1 hk hc ht, hn])
    simp only [show ((0 : Nat) : Int) = 0 from rfl] at this
    rw [this]
    obtain ⟨t, ht⟩ := hall w.length (Nat.le_refl _)
    rw [List.take_length] at ht
    apply Loop_end
    simp only [ht, Option.isSome_some, if_true]
    rw [dawg_walk.b1, if_neg (by rw [decide_eq_true_eq]; omega)]
    rfl
  · have := Loop_run (b := dawg_walk.b1 g w) (fun k => (stsS g ((g.Final.length : Int) - 1) w k, (k : Int))) (i := 0) (n := k) (Nat.zero_le _) (fun j _ hj => by
      obtain ⟨t, ht⟩ := hpre j (by omega)
      obtain ⟨u, hu⟩ := hpre (j + 1) (by omega)
      have hc : w[j]? = some (w[j]'(by omega)) := List.getElem?_eq_getElem _
      have hn : nextS g t (w[j]'(by omega)) = some u := by rw [run_take_next hc, ht] at hu; exact hu
      show dawg_walk.b1 g w (stsS g _ w j, (j : Int)) = _
      rw [walk_step hs hr hw hst0 hst1 (by omega) hc ht, hn])
    simp only [show ((0 : Nat) : Int) = 0 from rfl] at this
    rw [this]
    have hnone : runS g ((g.Final.length : Int) - 1) w = none := by
      have h1 : runS g ((g.Final.length : Int) - 1) (w.take (k + 1)) = none := by rw [run_take_next hc, ht]; exact hn
      have := run_take_none h1 w.length (by omega)
      rwa [List.take_length] at this
    rw [Loop_done (r := ([], false)) (by rw [walk_step hs hr hw hst0 hst1 hk hc ht, hn]), hnone]
    rfl
theorem run_last {g : TGraph} (hr : RightP g) {w : Str} {t : Int} (h : runS g ((g.Final.length : Int) - 1) w = some t) : idx (stsS g ((g.Final.length : Int) - 1) w w.length) (w.length : Int) = some t ∧ 0 ≤ t ∧ t < g.Final.length :=
  ⟨stsS_at (Nat.le_refl _) (by rw [List.take_length]; exact h), runS_ok hr (by have := hr.lo; omega) (by omega) h⟩
end Go.Val

/- part P8 -/
/- Plain lemmas: Number of both. -/
namespace Go.Val
set_option linter.unusedVariables false
def numRow (cs : List Int) (n : Int) (xs : List TEdge) (c : UInt8) : Int := xs.foldl (fun n x => if x.Label.toNat < c.toNat then n + cs.getD x.To.toNat 0 else n) n
theorem numRow_snoc {cs : List Int} {n : Int} {xs : List TEdge} {x : TEdge} {c : UInt8} : numRow cs n (xs ++ [x]) c = if x.Label.toNat < c.toNat then numRow cs n xs c + cs.getD x.To.toNat 0 else numRow cs n xs c := by simp [numRow]
theorem numRow_bound {cs : List Int} (hc : ∀ c ∈ cs, 0 ≤ c ∧ c ≤ cap) {n : Int} (h0 : 0 ≤ n) (c : UInt8) (xs : List TEdge) : n ≤ numRow cs n xs c ∧ numRow cs n xs c ≤ n + xs.length * cap := by
  induction xs using snoc_ind with
  | h0 => simp [numRow]
  | h1 l x ih =>
    rw [numRow_snoc]
    have := getD_bound hc x.To.toNat
    have e : ((l ++ [x]).length : Int) * cap = l.length * cap + cap := by rw [List.length_append]; simp [Int.add_mul]
    have hcap : (0 : Int) ≤ cap := by unfold cap; omega
    split <;> omega
theorem cnt_at {g : TGraph} (hr : RightP g) {t : Int} (h0 : 0 ≤ t) (h1 : t < g.Final.length) : idx (counts (rowsOf g)) t = some ((counts (rowsOf g)).getD t.toNat 0) := by
  have hl : (counts (rowsOf g)).length = g.Final.length := by rw [counts_len, rows_len hr.len]
  have hx : (counts (rowsOf g))[t.toNat]? = some ((counts (rowsOf g))[t.toNat]'(by omega)) := List.getElem?_eq_getElem _
  rw [idx_some h0 hx]
  rw [List.getD_eq_getElem?_getD, hx]; rfl
theorem row_ok {g : TGraph} (hr : RightP g) {s : Int} (h0 : 0 ≤ s) (h1 : s < g.Final.length) {xs : List TEdge} (hx : g.Edges[s.toNat]? = some xs) {x : TEdge} {k : Nat} (hk : xs[k]? = some x) : 0 ≤ x.To ∧ x.To < s ∧ (0 < k → ∀ x1, xs[k - 1]? = some x1 → x1.Label.toNat < x.Label.toNat) := by
  have := hr.rows s.toNat (List.getElem?_eq_some_iff.1 hx).1 xs hx _ (List.getElem?_eq_some_iff.1 hk).1 x hk
  exact ⟨this.1, by omega, this.2.2⟩
/-- One row of the farm's Number. -/
theorem dawg_num_row {g : TGraph} (hr : RightP g) {s : Int} (h0 : 0 ≤ s) (h1 : s < g.Final.length) {xs : List TEdge} (hx : g.Edges[s.toNat]? = some xs) (hl : xs.length ≤ 300) {w : Str} {v : Nat} {c : UInt8} (hc : w[v]? = some c) (hv : v < 1000) (e : Int) {n : Int} (hn0 : 0 ≤ n) (hn1 : n ≤ 1000000000000000000) :
    Loop (dawg_Number.b2 w (counts (rowsOf g), e) (v : Int) xs) (n, 0) = some (.next (numRow (counts (rowsOf g)) n xs c, ((v + 1 : Nat) : Int))) := by
  have hcb := counts_bound (rowsOf g)
  have := Loop_run (b := dawg_Number.b2 w (counts (rowsOf g), e) (v : Int) xs) (fun k => (numRow (counts (rowsOf g)) n (xs.take k) c, (k : Int))) (i := 0) (n := xs.length) (Nat.zero_le _) (fun j _ hj => by
    have hj1 : xs[j]? = some xs[j] := List.getElem?_eq_getElem hj
    have hk := row_ok hr h0 h1 hx hj1
    have hb := numRow_bound hcb hn0 c (xs.take j)
    have hg := getD_bound hcb xs[j].To.toNat
    have hlen : (xs.take j).length = j := by rw [List.length_take]; omega
    rw [hlen] at hb
    have hm : (j : Int) * cap ≤ 300 * cap := Int.mul_le_mul_of_nonneg_right (by omega) (by unfold cap; omega)
    unfold cap at hb hg hm
    show dawg_Number.b2 w _ (v : Int) xs (_, (j : Int)) = _
    rw [dawg_Number.b2, if_pos (by rw [decide_eq_true_eq]; omega), idx_nat, hj1, Option.bind_some, idx_nat, hc, Option.bind_some, take_snoc hj1, numRow_snoc]
    by_cases h : xs[j].Label.toNat < c.toNat
    · rw [if_pos (by rw [decide_eq_true_eq]; omega), cnt_at hr hk.1 (by omega), Option.bind_some, if_pos h, w64 (by omega) (by omega)]
      unfold dawg_Number.k4
      rw [w64s (by omega)]
    · rw [if_neg (by rw [decide_eq_true_eq]; omega), if_neg h]
      unfold dawg_Number.k4
      rw [w64s (by omega)])
  simp only [List.take_zero, List.take_length, show ((0 : Nat) : Int) = 0 from rfl] at this
  rw [show numRow (counts (rowsOf g)) n [] c = n from rfl] at this
  rw [this]
  apply Loop_done
  rw [dawg_Number.b2, if_neg (by rw [decide_eq_true_eq]; omega)]
  unfold dawg_Number.k2
  rw [w64s (by omega)]
  rfl
/-- Past the first label that is not below, nothing counts. -/
theorem numRow_cut {cs : List Int} {n : Int} {xs : List TEdge} {c : UInt8} {m : Nat} (hsort : ∀ k x, xs[k]? = some x → 0 < k → ∀ x1, xs[k - 1]? = some x1 → x1.Label.toNat < x.Label.toNat) (hm : ∀ x, xs[m]? = some x → c.toNat ≤ x.Label.toNat) : numRow cs n xs c = numRow cs n (xs.take m) c := by
  have key : ∀ j, m ≤ j → (∀ x, xs[j]? = some x → c.toNat ≤ x.Label.toNat) ∧ numRow cs n (xs.take j) c = numRow cs n (xs.take m) c := by
    intro j hj
    induction j with
    | zero => obtain rfl : m = 0 := by omega
              exact ⟨hm, rfl⟩
    | succ j ih =>
      by_cases e : m = j + 1
      · subst e; exact ⟨hm, rfl⟩
      · obtain ⟨i1, i2⟩ := ih (by omega)
        refine ⟨fun x hx => ?_, ?_⟩
        · have hlt := (List.getElem?_eq_some_iff.1 hx).1
          have hj1 : xs[j]? = some (xs[j]'(by omega)) := List.getElem?_eq_getElem _
          have := hsort (j + 1) x hx (by omega) _ (by rw [Nat.add_sub_cancel]; exact hj1)
          have := i1 _ hj1
          omega
        · cases hx : xs[j]? with
          | none => rw [List.take_of_length_le (by have := List.getElem?_eq_none_iff.1 hx; omega), ← i2, List.take_of_length_le (List.getElem?_eq_none_iff.1 hx)]
          | some x => rw [take_snoc hx, numRow_snoc, if_neg (by have := i1 x hx; omega), i2]
  by_cases h : m ≤ xs.length
  · have := (key xs.length h).2
    rwa [List.take_length] at this
  · rw [List.take_of_length_le (by omega)]
/-- One row of the reference's Number: the sum below the label. -/
theorem ref_num_row {g : TGraph} (hr : RightP g) {s : Int} (h0 : 0 ≤ s) (h1 : s < g.Final.length) {xs : List TEdge} (hx : g.Edges[s.toNat]? = some xs) (hl : xs.length ≤ 300) {w : Str} {v : Nat} {c : UInt8} (hc : w[v]? = some c) (hv : v < 1000) (e : Int) {n : Int} (hn0 : 0 ≤ n) (hn1 : n ≤ 1000000000000000000) :
    Loop (scansionref17_Number.b2 g w (counts (rowsOf g), e) s (v : Int)) (n, 0) = scansionref17_Number.k4 g w s (v : Int) (numRow (counts (rowsOf g)) n xs c) := by
  have hcb := counts_bound (rowsOf g)
  have hi : idx g.Edges s = some xs := idx_some h0 hx
  have hle : xs.findIdx (fun x => decide (c.toNat ≤ x.Label.toNat)) ≤ xs.length := List.findIdx_le_length
  generalize hM : xs.findIdx (fun x => decide (c.toNat ≤ x.Label.toNat)) = m at hle
  have := Loop_run (b := scansionref17_Number.b2 g w (counts (rowsOf g), e) s (v : Int)) (fun k => (numRow (counts (rowsOf g)) n (xs.take k) c, (k : Int))) (i := 0) (n := m) (Nat.zero_le _) (fun j _ hj => by
    have hj0 : j < xs.length := by omega
    have hj1 : xs[j]? = some xs[j] := List.getElem?_eq_getElem hj0
    have hg0 : decide (c.toNat ≤ xs[j].Label.toNat) = false := by
      have := List.not_of_lt_findIdx (p := fun x : TEdge => decide (c.toNat ≤ x.Label.toNat)) (xs := xs) (i := j) (by omega)
      simpa using this
    have hlt : xs[j].Label.toNat < c.toNat := by simpa using hg0
    have hk := row_ok hr h0 h1 hx hj1
    have hb := numRow_bound hcb hn0 c (xs.take j)
    have hg := getD_bound hcb xs[j].To.toNat
    have hlen : (xs.take j).length = j := by rw [List.length_take]; omega
    rw [hlen] at hb
    have hm : (j : Int) * cap ≤ 300 * cap := Int.mul_le_mul_of_nonneg_right (by omega) (by unfold cap; omega)
    unfold cap at hb hg hm
    show scansionref17_Number.b2 g w _ s (v : Int) (_, (j : Int)) = _
    rw [scansionref17_Number.b2, hi, Option.bind_some, if_pos (by rw [decide_eq_true_eq]; omega), idx_nat, hj1, Option.bind_some, idx_nat, hc, Option.bind_some, Option.bind_some, if_pos (by rw [decide_eq_true_eq]; omega), Option.bind_some, idx_nat, hj1, Option.bind_some, cnt_at hr hk.1 (by omega), Option.bind_some, w64 (by omega) (by omega), w64s (by omega), take_snoc hj1, numRow_snoc, if_pos hlt])
  simp only [List.take_zero, show ((0 : Nat) : Int) = 0 from rfl] at this
  rw [show numRow (counts (rowsOf g)) n [] c = n from rfl] at this
  rw [this]
  have hcut : numRow (counts (rowsOf g)) n xs c = numRow (counts (rowsOf g)) n (xs.take m) c := numRow_cut (fun k x hk h x1 hx1 => (row_ok hr h0 h1 hx hk).2.2 h x1 hx1) (fun x hxm => by
    have hlt := (List.getElem?_eq_some_iff.1 hxm).1
    have h2 := List.findIdx_getElem (p := fun x : TEdge => decide (c.toNat ≤ x.Label.toNat)) (xs := xs) (w := by omega)
    subst hM
    rw [List.getElem?_eq_getElem hlt] at hxm
    injection hxm with hxm
    subst hxm
    simpa using h2)
  rw [hcut]
  apply Loop_end
  rw [scansionref17_Number.b2, hi, Option.bind_some]
  by_cases h : m < xs.length
  · have hj1 : xs[m]? = some xs[m] := List.getElem?_eq_getElem h
    have h2 := List.findIdx_getElem (p := fun x : TEdge => decide (c.toNat ≤ x.Label.toNat)) (xs := xs) (w := by omega)
    have h3 : c.toNat ≤ xs[m].Label.toNat := by subst hM; simpa using h2
    rw [if_pos (by rw [decide_eq_true_eq]; omega), idx_nat, hj1, Option.bind_some, idx_nat, hc, Option.bind_some, Option.bind_some, if_neg (by rw [decide_eq_true_eq]; omega)]
  · rw [if_neg (by rw [decide_eq_true_eq]; omega), Option.bind_some, if_neg (by decide)]
def stOf (g : TGraph) (w : Str) (k : Nat) : Int := (runS g ((g.Final.length : Int) - 1) (w.take k)).getD 0
def numA (g : TGraph) (w : Str) : Nat → Int
  | 0 => 0
  | k + 1 => numRow (counts (rowsOf g)) (numA g w k + if (g.Final[(stOf g w k).toNat]?).getD false then 1 else 0) ((g.Edges[(stOf g w k).toNat]?).getD []) (w.getD k 0)
theorem numA_succ {g : TGraph} {w : Str} {k : Nat} : numA g w (k + 1) = numRow (counts (rowsOf g)) (numA g w k + if (g.Final[(stOf g w k).toNat]?).getD false then 1 else 0) ((g.Edges[(stOf g w k).toNat]?).getD []) (w.getD k 0) := rfl
def Rows300 (g : TGraph) : Prop := ∀ xs ∈ g.Edges, xs.length ≤ 300
theorem numA_bound {g : TGraph} (h3 : Rows300 g) {w : Str} : ∀ k, 0 ≤ numA g w k ∧ numA g w k ≤ k * (1 + 300 * cap)
  | 0 => by simp [numA]
  | k + 1 => by
    have ih := numA_bound h3 (w := w) k
    unfold numA
    generalize hf : (if (g.Final[(stOf g w k).toNat]?).getD false then (1 : Int) else 0) = f
    have hf2 : 0 ≤ f ∧ f ≤ 1 := by rw [← hf]; split <;> omega
    have hl : ((g.Edges[(stOf g w k).toNat]?).getD []).length ≤ 300 := by
      cases h : g.Edges[(stOf g w k).toNat]? with
      | none => simp
      | some xs => exact h3 xs (List.mem_of_getElem? h)
    generalize (g.Edges[(stOf g w k).toNat]?).getD [] = xs at hl ⊢
    have hb := numRow_bound (counts_bound (rowsOf g)) (n := numA g w k + f) (by omega) (w.getD k 0) xs
    have hm : (xs.length : Int) * cap ≤ 300 * cap := Int.mul_le_mul_of_nonneg_right (by omega) (by unfold cap; omega)
    have e : ((k + 1 : Nat) : Int) * (1 + 300 * cap) = k * (1 + 300 * cap) + (1 + 300 * cap) := by rw [Int.natCast_succ, Int.add_mul, Int.one_mul]
    rw [e]
    omega
theorem numA_ok {g : TGraph} (h3 : Rows300 g) {w : Str} {k : Nat} (hk : k ≤ 1000) : 0 ≤ numA g w k ∧ numA g w k ≤ 900000000000000000 := by
  have := numA_bound h3 (w := w) k
  have hm : (k : Int) * (1 + 300 * cap) ≤ 1000 * (1 + 300 * cap) := Int.mul_le_mul_of_nonneg_right (by omega) (by unfold cap; omega)
  unfold cap at hm this
  omega
/-- What Number answers at a word that the graph has. -/
def numS (g : TGraph) (w : Str) : Int := mn (numA g w w.length) 1099511627776
theorem all_of {g : TGraph} {s t : Int} {w : Str} (h : runS g s w = some t) : ∀ k, k ≤ w.length → ∃ u, runS g s (w.take k) = some u := by
  intro k hk
  cases e : runS g s (w.take k) with
  | some u => exact ⟨u, rfl⟩
  | none =>
    have := run_take_none e w.length hk
    rw [List.take_length, h] at this
    cases this
theorem dawg_num_loop {g : TGraph} (h3 : Rows300 g) (hr : RightP g) {w : Str} (hw : w.length ≤ 100) {t : Int} (h : runS g ((g.Final.length : Int) - 1) w = some t) (e : Int) (b : Bool) : Loop (dawg_Number.b1 g w (counts (rowsOf g), e) (stsS g ((g.Final.length : Int) - 1) w w.length, b)) (0, 0) = some (numS g w, 0) := by
  have hall := all_of h
  have hst0 : 0 ≤ (g.Final.length : Int) - 1 := by have := hr.lo; omega
  have hst1 : (g.Final.length : Int) - 1 < g.Final.length := by omega
  have := Loop_run (b := dawg_Number.b1 g w (counts (rowsOf g), e) (stsS g ((g.Final.length : Int) - 1) w w.length, b)) (fun k => (numA g w k, (k : Int))) (i := 0) (n := w.length) (Nat.zero_le _) (fun k _ hk => by
    obtain ⟨u, hu⟩ := hall k (by omega)
    have hb := runS_ok hr hst0 hst1 hu
    obtain ⟨xs, hi, hx, hm⟩ := row_at hr hb.1 hb.2
    obtain ⟨f, hf1, hf2⟩ := final_at hb.1 hb.2
    have hc : w[k]? = some w[k] := List.getElem?_eq_getElem hk
    have hn := numA_ok h3 (w := w) (k := k) (by omega)
    have hst : stOf g w k = u := by unfold stOf; rw [hu]; rfl
    have hrow := fun (n : Int) h0 h1 => dawg_num_row hr hb.1 hb.2 hx (h3 xs hm) hc (by omega) e (n := n) h0 h1
    show dawg_Number.b1 g w _ _ (numA g w k, (k : Int)) = _
    rw [dawg_Number.b1, if_pos (by rw [decide_eq_true_eq]; omega), stsS_at (by omega) hu, Option.bind_some, hf1, Option.bind_some]
    unfold dawg_Number.k3
    rw [hi, Option.bind_some, Option.bind_some]
    show _ = some (Step.next (numA g w (k + 1), _))
    rw [numA_succ, hst, hf2, hx, List.getD_eq_getElem?_getD, hc]
    cases f with
    | true => rw [if_pos rfl, w64 (by omega) (by omega), hrow _ (by omega) (by omega)]; rfl
    | false => rw [if_neg (by decide), hrow _ (by omega) (by omega)]; simp)
  simp only [show ((0 : Nat) : Int) = 0 from rfl] at this
  rw [show numA g w 0 = 0 from rfl] at this
  rw [this]
  apply Loop_end
  rw [dawg_Number.b1, if_neg (by rw [decide_eq_true_eq]; omega)]
  rfl
theorem ref_num_loop {g : TGraph} (hs : Short g) (h3 : Rows300 g) (hr : RightP g) {w : Str} (hw : w.length ≤ 100) {t : Int} (h : runS g ((g.Final.length : Int) - 1) w = some t) (e : Int) : Loop (scansionref17_Number.b1 g w (counts (rowsOf g), e)) (0, (g.Final.length : Int) - 1, 0) = some (numS g w, 0) := by
  have hall := all_of h
  have hst0 : 0 ≤ (g.Final.length : Int) - 1 := by have := hr.lo; omega
  have hst1 : (g.Final.length : Int) - 1 < g.Final.length := by omega
  have := Loop_run (b := scansionref17_Number.b1 g w (counts (rowsOf g), e)) (fun k => (numA g w k, stOf g w k, (k : Int))) (i := 0) (n := w.length) (Nat.zero_le _) (fun k _ hk => by
    obtain ⟨u, hu⟩ := hall k (by omega)
    obtain ⟨v, hv⟩ := hall (k + 1) (by omega)
    have hb := runS_ok hr hst0 hst1 hu
    obtain ⟨xs, hi, hx, hm⟩ := row_at hr hb.1 hb.2
    obtain ⟨f, hf1, hf2⟩ := final_at hb.1 hb.2
    have hc : w[k]? = some w[k] := List.getElem?_eq_getElem hk
    have hn := numA_ok h3 (w := w) (k := k) (by omega)
    have hst : stOf g w k = u := by unfold stOf; rw [hu]; rfl
    have hst2 : stOf g w (k + 1) = v := by unfold stOf; rw [hv]; rfl
    have hnx : nextS g u w[k] = some v := by rw [run_take_next hc, hu] at hv; exact hv
    have hrow := fun (n : Int) h0 h1 => ref_num_row hr hb.1 hb.2 hx (h3 xs hm) hc (by omega) e (n := n) h0 h1
    show scansionref17_Number.b1 g w _ (numA g w k, stOf g w k, (k : Int)) = _
    rw [scansionref17_Number.b1, hst, if_pos (by rw [decide_eq_true_eq]; omega), hf1, Option.bind_some]
    unfold scansionref17_Number.k3
    show _ = some (Step.next (numA g w (k + 1), stOf g w (k + 1), _))
    have hk4 : ∀ n, scansionref17_Number.k4 g w u (k : Int) n = some (.next (n, v, ((k + 1 : Nat) : Int))) := fun n => by
      unfold scansionref17_Number.k4 scansionref17_Number.k2
      rw [idx_nat, hc, Option.bind_some, ref_to_eq hs hr hb.1 hb.2, Option.bind_some, hnx, w64s (by omega)]
      rfl
    rw [hst2, numA_succ, hst, hf2, hx, List.getD_eq_getElem?_getD, hc]
    cases f with
    | true => rw [if_pos rfl, w64 (by omega) (by omega), hrow _ (by omega) (by omega), hk4]; rfl
    | false => rw [if_neg (by decide), hrow _ (by omega) (by omega), hk4]; simp)
  simp only [show ((0 : Nat) : Int) = 0 from rfl] at this
  rw [show numA g w 0 = 0 from rfl, show stOf g w 0 = (g.Final.length : Int) - 1 from rfl] at this
  rw [this]
  apply Loop_end
  rw [scansionref17_Number.b1, if_neg (by rw [decide_eq_true_eq]; omega)]
  rfl
theorem dawg_Number_eq {g : TGraph} (hs : Short g) (h3 : Rows300 g) (hr : RightP g) {w : Str} (hw : w.length ≤ 100) : dawg_Number g w = some (if hasS g w then (numS g w, 0) else (0, 4)) := by
  unfold dawg_Number
  rw [dawg_Count_eq hs hr, Option.bind_some, if_neg (by simp), dawg_walk_eq hs hr (by omega), Option.bind_some]
  cases h : runS g ((g.Final.length : Int) - 1) w with
  | none => simp [hasS, h]
  | some t =>
    obtain ⟨h1, h2, h4⟩ := run_last hr h
    obtain ⟨b, hb1, hb2⟩ := final_at h2 h4
    simp only [Option.isSome_some, if_true]
    rw [if_neg (by decide), h1, Option.bind_some, hb1, Option.bind_some, Option.bind_some, dawg_num_loop h3 hr hw h]
    cases b <;> simp [hasS, h, hb2]
theorem ref_Number_eq {g : TGraph} (hs : Short g) (h3 : Rows300 g) (hr : RightP g) {w : Str} (hw : w.length ≤ 100) : scansionref17_Number g w = some (if hasS g w then (numS g w, 0) else (0, 4)) := by
  unfold scansionref17_Number
  rw [ref_Count_eq hs hr, Option.bind_some, if_neg (by simp), ref_Has_eq hs hr (by omega), Option.bind_some, start_w hr]
  cases hh : hasS g w with
  | false => rfl
  | true =>
    rw [if_neg (by decide)]
    cases h : runS g ((g.Final.length : Int) - 1) w with
    | none => simp [hasS, h] at hh
    | some t => rw [ref_num_loop hs h3 hr hw h]; rfl
end Go.Val

/- part P9 -/
/- Plain lemmas: Word of both. -/
namespace Go.Val
set_option linter.unusedVariables false
theorem cnt_sum {g : TGraph} (hr : RightP g) {s : Nat} {f : Bool} {xs : List TEdge} (h1 : g.Final[s]? = some f) (h2 : g.Edges[s]? = some xs) : (counts (rowsOf g)).getD s 0 = mn (sumTo (counts (rowsOf g)) (if f then 1 else 0) xs) cap := by
  have hl := rows_len hr.len
  have hlt := (List.getElem?_eq_some_iff.1 h2).1
  have hlf := hr.len
  have hrow := hr.rows s hlt xs h2
  have hpre := counts_bound ((rowsOf g).take s)
  have e0 : counts ((rowsOf g).take (s + 1)) = (counts (rowsOf g)).take (s + 1) := counts_take _ _
  have e := congrArg (fun l => l[s]?) (counts_next h1 h2)
  simp only [e0, List.getElem?_take] at e
  rw [if_pos (by omega)] at e
  have hll : (counts ((rowsOf g).take s)).length = s := by rw [counts_len, List.length_take]; omega
  rw [List.getElem?_append_right (by omega), hll, Nat.sub_self] at e
  rw [List.getD_eq_getElem?_getD, e]
  show crow _ _ xs = _
  rw [crow_sum hpre (by split <;> omega) (by split <;> omega)]
  congr 1
  exact sumTo_congr fun x hx => by
    obtain ⟨k, hk⟩ := List.getElem?_of_mem hx
    have hok := hrow k (List.getElem?_eq_some_iff.1 hk).1 _ hk
    rw [counts_take, List.getD_eq_getElem?_getD, List.getD_eq_getElem?_getD, List.getElem?_take, if_pos (by omega)]
/-- The edge that holds word number n of a row, and the number left. -/
def pick (cs : List Int) : Int → List TEdge → Option (Int × TEdge)
  | n, [] => none
  | n, x :: xs => if n < cs.getD x.To.toNat 0 then some (n, x) else pick cs (n - cs.getD x.To.toNat 0) xs
theorem pick_none {cs : List Int} : ∀ {xs : List TEdge} {n a : Int}, pick cs n xs = none → 0 ≤ n → sumTo cs a xs ≤ a + n
  | [], n, a, h, h0 => by simp [sumTo]; omega
  | x :: xs, n, a, h, h0 => by
    unfold pick at h
    split at h
    · cases h
    · have := pick_none (a := a + cs.getD x.To.toNat 0) h (by omega)
      have e : sumTo cs a (x :: xs) = sumTo cs (a + cs.getD x.To.toNat 0) xs := rfl
      rw [e]; omega
theorem pick_some {cs : List Int} (hc : ∀ c ∈ cs, 0 ≤ c ∧ c ≤ cap) : ∀ {xs : List TEdge} {n m : Int} {x : TEdge}, pick cs n xs = some (m, x) → 0 ≤ n → 0 ≤ m ∧ m ≤ n ∧ m < cs.getD x.To.toNat 0 ∧ x ∈ xs
  | [], n, m, x, h, h0 => by simp [pick] at h
  | y :: xs, n, m, x, h, h0 => by
    unfold pick at h
    split at h
    · injection h with h; injection h with h1 h2; subst h1 h2; exact ⟨h0, by omega, by assumption, by simp⟩
    · have := pick_some hc h (by omega)
      have := getD_bound hc y.To.toNat
      refine ⟨by omega, by omega, by omega, by simp [*]⟩
theorem drop_at {α : Type} {xs ys : List α} {x : α} {k : Nat} (h : xs.drop k = x :: ys) : xs[k]? = some x ∧ xs.drop (k + 1) = ys ∧ k < xs.length := by
  have h1 : (xs.drop k)[0]? = some x := by rw [h]; rfl
  rw [List.getElem?_drop, Nat.add_zero] at h1
  refine ⟨h1, ?_, (List.getElem?_eq_some_iff.1 h1).1⟩
  rw [← List.tail_drop, h]; rfl
theorem dawg_word_row {g : TGraph} (hr : RightP g) {s : Int} (h0 : 0 ≤ s) (h1 : s < g.Final.length) {xs : List TEdge} (hx : g.Edges[s.toNat]? = some xs) (hl : xs.length ≤ 300) {word : List UInt8} (hw : word.length ≤ 1000000) {m : Int} {x : TEdge} (e : Int) : ∀ (ys : List TEdge) (k : Nat) (n : Int), xs.drop k = ys → 0 ≤ n → n ≤ cap → pick (counts (rowsOf g)) n ys = some (m, x) →
    Loop (dawg_Word.b2 (counts (rowsOf g), e) s word xs) (n, (k : Int)) = some (.next (m, x.To, word ++ [x.Label]))
  | [], k, n, hd, n0, n1, hp => by simp [pick] at hp
  | y :: ys, k, n, hd, n0, n1, hp => by
    obtain ⟨hk, hd2, hlt⟩ := drop_at hd
    have hok := row_ok hr h0 h1 hx hk
    have hcb := counts_bound (rowsOf g)
    have hg := getD_bound hcb y.To.toNat
    unfold pick at hp
    by_cases h : n < (counts (rowsOf g)).getD y.To.toNat 0
    · rw [if_pos h] at hp
      injection hp with hp; injection hp with hp1 hp2; subst hp1 hp2
      apply Loop_end
      rw [dawg_Word.b2, if_pos (by rw [decide_eq_true_eq]; omega), idx_nat, hk, Option.bind_some, cnt_at hr hok.1 (by omega), Option.bind_some, if_pos (by rw [decide_eq_true_eq]; omega), room_ok (by omega), Option.bind_some]
      rfl
    · rw [if_neg h] at hp
      unfold cap at hg n1
      rw [← dawg_word_row hr h0 h1 hx hl hw e ys (k + 1) (n - (counts (rowsOf g)).getD y.To.toNat 0) hd2 (by omega) (by unfold cap; omega) hp]
      apply Loop_next
      rw [dawg_Word.b2, if_pos (by rw [decide_eq_true_eq]; omega), idx_nat, hk, Option.bind_some, cnt_at hr hok.1 (by omega), Option.bind_some, if_neg (by rw [decide_eq_true_eq]; omega), w64 (by omega) (by omega), w64s (by omega)]
theorem ref_word_row {g : TGraph} (hr : RightP g) {s : Int} (h0 : 0 ≤ s) (h1 : s < g.Final.length) {xs : List TEdge} (hx : g.Edges[s.toNat]? = some xs) (hl : xs.length ≤ 300) {word : Str} (hw : word.length ≤ 1000000) {m : Int} {x : TEdge} (e : Int) : ∀ (ys : List TEdge) (k : Nat) (n : Int), xs.drop k = ys → 0 ≤ n → n ≤ cap → pick (counts (rowsOf g)) n ys = some (m, x) →
    Loop (scansionref17_Word.b2 g (counts (rowsOf g), e) s word) (n, (k : Int)) = some (.next (m, x.To, word ++ [x.Label]))
  | [], k, n, hd, n0, n1, hp => by simp [pick] at hp
  | y :: ys, k, n, hd, n0, n1, hp => by
    obtain ⟨hk, hd2, hlt⟩ := drop_at hd
    have hok := row_ok hr h0 h1 hx hk
    have hcb := counts_bound (rowsOf g)
    have hg := getD_bound hcb y.To.toNat
    have hi : idx g.Edges s = some xs := idx_some h0 hx
    unfold pick at hp
    by_cases h : n < (counts (rowsOf g)).getD y.To.toNat 0
    · rw [if_pos h] at hp
      injection hp with hp; injection hp with hp1 hp2; subst hp1 hp2
      apply Loop_end
      rw [scansionref17_Word.b2, hi, Option.bind_some, idx_nat, hk, Option.bind_some, cnt_at hr hok.1 (by omega), Option.bind_some, if_neg (by rw [decide_eq_true_eq]; omega)]
      unfold scansionref17_Word.k3 scansionref17_Word.k1
      rw [hi, Option.bind_some, idx_nat, hk, Option.bind_some, roomS_ok (by omega), Option.bind_some]
    · rw [if_neg h] at hp
      unfold cap at hg n1
      rw [← ref_word_row hr h0 h1 hx hl hw e ys (k + 1) (n - (counts (rowsOf g)).getD y.To.toNat 0) hd2 (by omega) (by unfold cap; omega) hp]
      apply Loop_next
      rw [scansionref17_Word.b2, hi, Option.bind_some, idx_nat, hk, Option.bind_some, cnt_at hr hok.1 (by omega), Option.bind_some, if_pos (by rw [decide_eq_true_eq]; omega), w64 (by omega) (by omega), w64s (by omega)]
/-- From a state that holds more than n words, both spell the same word. -/
theorem word_run {g : TGraph} (hr : RightP g) (h3 : Rows300 g) (e : Int) : ∀ (N : Nat) (s n : Int) (word : Str), s.toNat ≤ N → 0 ≤ s → s < g.Final.length → 0 ≤ n → n < (counts (rowsOf g)).getD s.toNat 0 → word.length + N ≤ 100000 →
    ∃ r : Str, Loop (dawg_Word.b1 g (counts (rowsOf g), e)) (n, s, word) = some (r, 0) ∧ Loop (scansionref17_Word.b1 g (counts (rowsOf g), e)) (n, s, word) = some (r, 0) := by
  intro N
  induction N with
  | zero =>
    intro s n word hN h0 h1 n0 n1 hw
    obtain ⟨xs, hi, hx, hm⟩ := row_at hr h0 h1
    obtain ⟨f, hf1, hf2⟩ := final_at h0 h1
    have hs := cnt_sum hr hf2 hx
    rw [hs] at n1
    cases xs with
    | cons x l => have := row_ok hr h0 h1 hx (x := x) (k := 0) rfl; omega
    | nil =>
      cases f with
      | false => simp [sumTo, mn, cap] at n1; omega
      | true =>
        have : n = 0 := by simp [sumTo, mn, cap] at n1; omega
        subst this
        refine ⟨word, Loop_done ?_, Loop_done ?_⟩
        · rw [dawg_Word.b1, hf1]; rfl
        · rw [scansionref17_Word.b1, hf1]; rfl
  | succ N ih =>
    intro s n word hN h0 h1 n0 n1 hw
    obtain ⟨xs, hi, hx, hm⟩ := row_at hr h0 h1
    obtain ⟨f, hf1, hf2⟩ := final_at h0 h1
    have hs := cnt_sum hr hf2 hx
    have hcb := counts_bound (rowsOf g)
    have hg := getD_bound hcb s.toNat
    rw [hs] at n1
    have hn2 : n < sumTo (counts (rowsOf g)) (if f then 1 else 0) xs := Int.lt_of_lt_of_le n1 mn_le.2
    have hcap : n < cap := Int.lt_of_lt_of_le n1 mn_le.1
    have go : ∀ n' : Int, 0 ≤ n' → n' ≤ n → (if f then 1 else 0) + n' ≤ n → ∃ r : Str, ((dawg_Word.k2 g (counts (rowsOf g), e) s word n').bind fun st => match st with | .next st => Loop (dawg_Word.b1 g (counts (rowsOf g), e)) st | .done r => some r) = some (r, 0) ∧ ((scansionref17_Word.k2 g (counts (rowsOf g), e) s word n').bind fun st => match st with | .next st => Loop (scansionref17_Word.b1 g (counts (rowsOf g), e)) st | .done r => some r) = some (r, 0) ∧ ∃ st, dawg_Word.k2 g (counts (rowsOf g), e) s word n' = some (.next st) ∧ scansionref17_Word.k2 g (counts (rowsOf g), e) s word n' = some (.next st) := fun n' p0 p1 p2 => by
      cases hp : pick (counts (rowsOf g)) n' xs with
      | none => have := pick_none (a := if f then 1 else 0) hp p0; omega
      | some mx =>
        obtain ⟨m, x⟩ := mx
        obtain ⟨q0, q1, q2, q3⟩ := pick_some hcb hp p0
        obtain ⟨k, hk⟩ := List.getElem?_of_mem q3
        have hok := row_ok hr h0 h1 hx hk
        have hd := dawg_word_row hr h0 h1 hx (h3 xs hm) (word := word) (by omega) e xs 0 n' rfl p0 (by omega) hp
        have hf := ref_word_row hr h0 h1 hx (h3 xs hm) (word := word) (by omega) e xs 0 n' rfl p0 (by omega) hp
        obtain ⟨r, r1, r2⟩ := ih x.To m (word ++ [x.Label]) (by omega) hok.1 (by omega) q0 q2 (by simp; omega)
        have e1 : dawg_Word.k2 g (counts (rowsOf g), e) s word n' = some (.next (m, x.To, word ++ [x.Label])) := by
          unfold dawg_Word.k2; rw [hi, Option.bind_some]; exact hd
        have e2 : scansionref17_Word.k2 g (counts (rowsOf g), e) s word n' = some (.next (m, x.To, word ++ [x.Label])) := by
          unfold scansionref17_Word.k2; exact hf
        refine ⟨r, ?_, ?_, _, e1, e2⟩
        · rw [e1]; exact r1
        · rw [e2]; exact r2
    have fin : ∀ n' : Int, 0 ≤ n' → n' ≤ n → (if f then 1 else 0) + n' ≤ n → dawg_Word.b1 g (counts (rowsOf g), e) (n, s, word) = dawg_Word.k2 g (counts (rowsOf g), e) s word n' → scansionref17_Word.b1 g (counts (rowsOf g), e) (n, s, word) = scansionref17_Word.k2 g (counts (rowsOf g), e) s word n' → ∃ r : Str, Loop (dawg_Word.b1 g (counts (rowsOf g), e)) (n, s, word) = some (r, 0) ∧ Loop (scansionref17_Word.b1 g (counts (rowsOf g), e)) (n, s, word) = some (r, 0) := fun n' p0 p1 p2 e1 e2 => by
      obtain ⟨r, r1, r2, st, s1, s2⟩ := go n' p0 p1 p2
      rw [s1] at r1 e1
      rw [s2] at r2 e2
      exact ⟨r, by rw [Loop_next e1]; exact r1, by rw [Loop_next e2]; exact r2⟩
    cases f with
    | false =>
      refine fin n n0 (Int.le_refl _) (by simp) ?_ ?_
      · rw [dawg_Word.b1, hf1]; rfl
      · rw [scansionref17_Word.b1, hf1]; rfl
    | true =>
      by_cases hz : n = 0
      · subst hz
        refine ⟨word, Loop_done ?_, Loop_done ?_⟩
        · rw [dawg_Word.b1, hf1]; rfl
        · rw [scansionref17_Word.b1, hf1]; rfl
      · unfold cap at hcap
        refine fin (n - 1) (by omega) (by omega) (by simp; omega) ?_ ?_
        · rw [dawg_Word.b1, hf1, Option.bind_some, if_pos rfl, if_neg (by simpa using hz), w64 (by omega) (by omega)]
        · rw [scansionref17_Word.b1, hf1, Option.bind_some, if_pos rfl, if_neg (by simpa using hz), w64 (by omega) (by omega)]
/-- Word of both. -/
theorem Word_eq {g : TGraph} (hs : Short g) (h3 : Rows300 g) (hr : RightP g) (n : Int) : ∃ r, dawg_Word g n = some r ∧ scansionref17_Word g n = some r := by
  have hlen : (counts (rowsOf g)).length = g.Final.length := by rw [counts_len, rows_len hr.len]
  have hst0 : 0 ≤ (g.Final.length : Int) - 1 := by have := hr.lo; omega
  have hst1 : (g.Final.length : Int) - 1 < g.Final.length := by omega
  have D := dawg_Count_eq hs hr
  have R := ref_Count_eq hs hr
  by_cases hn : n < 0
  · refine ⟨([], 4), ?_, ?_⟩
    · unfold dawg_Word; rw [D, Option.bind_some, if_neg (by simp), if_pos (by rw [decide_eq_true_eq]; exact hn)]; rfl
    · unfold scansionref17_Word; rw [R, Option.bind_some, if_neg (by simp), if_pos (by rw [decide_eq_true_eq]; exact hn)]; rfl
  · have hn' : ¬ (decide (n < 0) = true) := by rw [decide_eq_true_eq]; exact hn
    by_cases hb : n ≥ (counts (rowsOf g)).getD ((g.Final.length : Int) - 1).toNat 0
    · have hb' : decide (n ≥ (counts (rowsOf g)).getD ((g.Final.length : Int) - 1).toNat 0) = true := by rw [decide_eq_true_eq]; exact hb
      refine ⟨([], 4), ?_, ?_⟩
      · unfold dawg_Word; rw [D, Option.bind_some, if_neg (by simp), if_neg hn']; simp only [hlen]; rw [start_w hr, cnt_at hr hst0 hst1, Option.bind_some, Option.bind_some, if_pos hb']
      · unfold scansionref17_Word; rw [R, Option.bind_some, if_neg (by simp), if_neg hn']; rw [start_w hr]; dsimp only; rw [cnt_at hr hst0 hst1, Option.bind_some, Option.bind_some, if_pos hb']
    · have hb' : ¬ (decide (n ≥ (counts (rowsOf g)).getD ((g.Final.length : Int) - 1).toNat 0) = true) := by rw [decide_eq_true_eq]; exact hb
      obtain ⟨r, r1, r2⟩ := word_run hr h3 0 65536 ((g.Final.length : Int) - 1) n [] (by have := hr.hi; omega) hst0 hst1 (by omega) (by omega) (by simp)
      refine ⟨(r, 0), ?_, ?_⟩
      · unfold dawg_Word; rw [D, Option.bind_some, if_neg (by simp), if_neg hn']; simp only [hlen]; rw [start_w hr, cnt_at hr hst0 hst1, Option.bind_some, Option.bind_some, if_neg hb']; exact r1
      · unfold scansionref17_Word; rw [R, Option.bind_some, if_neg (by simp), if_neg hn']; rw [start_w hr]; dsimp only; rw [cnt_at hr hst0 hst1, Option.bind_some, Option.bind_some, if_neg hb']; exact r2
theorem Same_ok {cs : List Int} (hl : cs.length ≤ 1000000) : scansionref01_SameInts cs cs = some true := by
  unfold scansionref01_SameInts
  rw [if_neg (by simp)]
  have := Loop_int (b := scansionref01_SameInts.b1 cs cs) (i := 0) (n := cs.length) (Nat.zero_le _) (fun j _ hj => by
    have hj1 : cs[j]? = some cs[j] := List.getElem?_eq_getElem hj
    rw [scansionref01_SameInts.b1, if_pos (by rw [decide_eq_true_eq]; omega), idx_nat, hj1, Option.bind_some, Option.bind_some, if_neg (by simp), w64s (by omega)])
  rw [show ((0 : Nat) : Int) = 0 from rfl] at this
  rw [this]
  apply Loop_end
  rw [scansionref01_SameInts.b1, if_neg (by simp)]
  rfl
end Go.Val

/- part P10 -/
/- Plain lemmas: few, rise and right. -/
namespace Go.Val
set_option linter.unusedVariables false
/-- A word of the right length. -/
def lenOk (s : Str) : Bool := !((decide ((s.length : Int) < 1)) || (decide ((s.length : Int) > 64)))
/-- Word number i lies above the one before it. -/
def upAt (l : List Str) (i : Nat) : Prop := ∀ a b, l[i - 1]? = some a → l[i]? = some b → (Op.bytesLess b a || b == a) = false
def RiseP (l : List Str) : Prop := (∀ s ∈ l, lenOk s = true) ∧ ∀ i, 0 < i → i < l.length → upAt l i
theorem ref_right_eq {l : List Str} (hl : l.length ≤ 5000) : (RiseP l → scansionref17_right l = some true) ∧ (¬ RiseP l → scansionref17_right l = some false) := by
  unfold scansionref17_right
  rw [if_neg (by rw [decide_eq_true_eq]; omega)]
  have val : ∀ j (hj : j < l.length), ∃ v, ((idx l (j : Int)).bind fun s => if decide ((s.length : Int) < 1) = true then some true else if decide ((s.length : Int) > 64) = true then some true else if decide ((j : Int) > 0) = true then (idx l (IntKind.i64.wrap ((j : Int) - 1))).bind fun s1 => some (Op.bytesLess s s1 || s == s1) else some false) = some v ∧ (v = false ↔ (lenOk l[j] = true ∧ (0 < j → upAt l j))) := fun j hj => by
    have hj1 : l[j]? = some l[j] := List.getElem?_eq_getElem hj
    rw [idx_nat, hj1, Option.bind_some]
    by_cases h1 : (l[j].length : Int) < 1
    · exact ⟨true, by rw [if_pos (by rw [decide_eq_true_eq]; exact h1)], by simp [lenOk]; intro h; omega⟩
    · rw [if_neg (by rw [decide_eq_true_eq]; exact h1)]
      by_cases h2 : (l[j].length : Int) > 64
      · exact ⟨true, by rw [if_pos (by rw [decide_eq_true_eq]; exact h2)], by simp [lenOk]; intro h; omega⟩
      · rw [if_neg (by rw [decide_eq_true_eq]; exact h2)]
        have hlen : lenOk l[j] = true := by unfold lenOk; rw [decide_eq_false h1, decide_eq_false h2]; rfl
        by_cases h3 : 0 < j
        · have hp1 : l[j - 1]? = some (l[j - 1]'(by omega)) := List.getElem?_eq_getElem _
          rw [if_pos (by rw [decide_eq_true_eq]; omega), w64 (by omega) (by omega), show ((j : Int) - 1) = ((j - 1 : Nat) : Int) by omega, idx_nat, hp1, Option.bind_some]
          refine ⟨_, rfl, fun h => ⟨hlen, fun _ a b ha hb => ?_⟩, fun h => h.2 h3 _ _ hp1 hj1⟩
          rw [hp1] at ha; rw [hj1] at hb; injection ha with ha; injection hb with hb; subst ha hb; exact h
        · exact ⟨false, by rw [if_neg (by rw [decide_eq_true_eq]; omega)], by simp [hlen, h3]⟩
  have := Loop_all0 (b := scansionref17_right.b1 l) (fun j => ∀ hj : j < l.length, lenOk l[j] = true ∧ (0 < j → upAt l j)) l.length (r := false) (R := true) (fun j hj hp => by
    obtain ⟨v, h1, h2⟩ := val j hj
    rw [scansionref17_right.b1, if_pos (by rw [decide_eq_true_eq]; omega), h1, Option.bind_some, h2.2 (hp hj), if_neg (by decide), w64s (by omega)]) (fun j hj hp => by
    obtain ⟨v, h1, h2⟩ := val j hj
    have hv : v = true := by cases v with
      | true => rfl
      | false => exact absurd (fun _ => h2.1 rfl) hp
    rw [scansionref17_right.b1, if_pos (by rw [decide_eq_true_eq]; omega), h1, Option.bind_some, hv, if_pos rfl]) (by
    rw [scansionref17_right.b1, if_neg (by rw [decide_eq_true_eq]; omega)]; rfl)
  have e : RiseP l ↔ ∀ j, j < l.length → ∀ hj : j < l.length, lenOk l[j] = true ∧ (0 < j → upAt l j) := ⟨fun h j _ hj => ⟨h.1 _ (List.getElem_mem hj), fun h0 => h.2 j h0 hj⟩, fun h => ⟨fun s hs => by
    obtain ⟨k, hk, rfl⟩ := List.getElem_of_mem hs
    exact (h k hk hk).1, fun i h0 hi => (h i hi hi).2 h0⟩⟩
  rw [e]; exact this
end Go.Val

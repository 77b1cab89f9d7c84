/- A value semantics of the model's programs, sound against it, and functions read off the given program with the proofs that it runs so; no condition. -/
import Derived.Test.YtgekjbingaghaaaOwnD
import Derived.Test.YtgekjbingaghaaaOwnC
import Derived.Sort.AssemblyPlain
set_option linter.all false
set_option linter.unnecessarySimpa false
set_option linter.unusedVariables false
set_option linter.unusedSimpArgs false
/- part JW28 -/
/- scansion/scansionref02.Has runs as it is read off. -/
namespace Go.Val
set_option linter.unusedVariables false
set_option linter.unusedSimpArgs false
set_option maxRecDepth 20000
open Go.Proofs
theorem scansionref02_Has_runs (a_ : List TRange) (r : Int) {h : Heap} {a : Bool} (e : scansionref02_Has a_ r = some a) :
    Runs CT 28 [.cv (.val (.sl (List.map eRange a_))), .cv (.val (.int .i64 r))] h fun o h' => o = [.cv (.val (.bool a))] ∧ h' = h := by
  refine Runs.start Try.f28 _ Try.func28 rfl (by rw [Try.ntmps28]; simp) (by rfl) (by rfl) (fun hwf hu => ?_)
  obtain ⟨D, hD, hr⟩ : ∃ D : Bool → Prop, (∀ z, D z → z = a) ∧ Holds (scansionref02_Has a_ r) D := ⟨fun z => z = a, fun _ h => h, Holds.intro e rfl⟩
  dsimp only [scansionref02_Has] at hr
  change wpCode _ _ _ _ _ ⟨[(0, .cv (.val (.sl (List.map eRange a_)))), (1, .cv (.val (.int .i64 r)))], h.on []⟩
  refine w_seq ?_
  refine A_region ?_
  refine w_n ?_
  refine w_seq ?_
  refine w_seq ?_
  refine A_region ?_
  refine w_n ?_
  refine w_K (D := D) (fun xX : Unit => ⟨[], h.on []⟩) (fun xX : Unit => scansionref02_Has.k1) (fun xX s' hr ht => ?_) ?_
  · dsimp only [scansionref02_Has.k1] at hr ht
    refine (w_nT ht ?_)
    refine w_seq ?_
    refine A_region ?_
    refine w_n ?_
    refine w_ret ?_
    obtain rfl := hD _ hr
    exact (A_endR (A_cut (os' := []) (sl := [(4, .cv (.val (.bool false)))]) hwf) ⟨rfl, on_nil hwf⟩)
  · refine w_block ?_
    refine w_Loop (fun xX : Int => ⟨[(0, .cv (.val (.sl (List.map eRange a_)))), (1, .cv (.val (.int .i64 r))), (5, .cv (.val (.int .i64 xX)))], h.on []⟩) hr (A_cut hwf) (fun W1 xX hr => ?_)
    obtain ⟨i, rfl⟩ : ∃ z, z = xX := ⟨xX, rfl⟩
    dsimp only [scansionref02_Has.b1] at hr
    refine w_seq ?_
    refine w_seq ?_
    refine A_region ?_
    refine w_n ?_
    refine A_condH hr (fun cF1 hr => ?_) (fun cF1 hr => ?_)
    · refine w_skip ?_
      refine w_n ?_
      refine w_seq ?_
      refine w_block ?_
      obtain ⟨v, vF6, hr⟩ := hr.bind
      refine w_joinR (sj := ⟨[(0, .cv (.val (.sl (List.map eRange a_)))), (1, .cv (.val (.int .i64 r))), (5, .cv (.val (.int .i64 i))), (27, .cv (.val (.bool v)))], h.on []⟩) (A_ops ?_) ?_
      · have hr := Holds.intro (D := fun z => z = v) vF6 rfl
        obtain ⟨x, nF2, eF3, gF4, hr⟩ := hr.idx
        refine A_upto 8 ?_
        rcases hr.ite with ⟨cF5, hr⟩ | ⟨cF5, hr⟩
        · refine A_ops_end ?_
          obtain rfl : _ = v := hr
          exact w_k (A_cut hwf)
        · refine A_ops_end ?_
          obtain rfl : _ = v := hr
          exact w_k (A_cut hwf)
      refine A_condH hr (fun cF7 hr => ?_) (fun cF7 hr => ?_)
      · refine w_seq ?_
        refine A_region ?_
        refine w_n ?_
        refine w_ret ?_
        obtain rfl := hD _ hr
        exact (w_br (w_tr (w_tr (w_br (w_tr (w_tr (A_endR (A_cut (os' := []) (sl := [(4, .cv (.val (.bool true)))]) hwf) ⟨rfl, on_nil hwf⟩)))))))
      · refine w_skip ?_
        refine (w_bn (w_n ?_))
        refine A_region ?_
        exact (w_k ⟨(IntKind.i64.wrap (i + (1 : Int))), hr, (A_cut hwf)⟩)
    · refine w_exit ?_
      exact (w_te (w_te (w_bx (w_k ⟨(), (hr).map, (A_cut hwf)⟩))))
end Go.Val

/- part JW89 -/
/- scansion/scansionref02.with runs as it is read off. -/
namespace Go.Val
set_option linter.unusedVariables false
set_option linter.unusedSimpArgs false
set_option maxRecDepth 20000
open Go.Proofs
theorem scansionref02_with_runs (l : List TRange) (low : Int) (high : Int) {h : Heap} {a : List TRange} (e : scansionref02_with l low high = some a) :
    Runs CT 89 [.cv (.row 80 (List.map eRange l)), .cv (.val (.int .i64 low)), .cv (.val (.int .i64 high))] h fun o h' => o = [.cv (.row 80 (List.map eRange a))] ∧ h' = h := by
  refine Runs.start Try.f89 _ Try.func89 rfl (by rw [Try.ntmps89]; simp) (by rfl) (by rfl) (fun hwf hu => ?_)
  obtain ⟨D, hD, hr⟩ : ∃ D : List TRange → Prop, (∀ z, D z → z = a) ∧ Holds (scansionref02_with l low high) D := ⟨fun z => z = a, fun _ h => h, Holds.intro e rfl⟩
  dsimp only [scansionref02_with] at hr
  change wpCode _ _ _ _ _ ⟨[(0, .cv (.row 80 (List.map eRange l))), (1, .cv (.val (.int .i64 low))), (2, .cv (.val (.int .i64 high)))], h.on []⟩
  refine w_seq ?_
  refine A_region ?_
  refine w_n ?_
  refine w_seq ?_
  refine A_region ?_
  refine w_n ?_
  refine w_seq ?_
  obtain ⟨v, vF5, hr⟩ := hr.bind
  refine w_joinR (sj := ⟨[(0, .cv (.row 80 (List.map eRange l))), (1, .cv (.val (.int .i64 low))), (2, .cv (.val (.int .i64 high))), (7, .cv (.val (.int .i64 (l.length : Int)))), (22, .cv (.val (.bool v)))], h.on []⟩) (A_ops ?_) ?_
  · have hr := Holds.intro (D := fun z => z = v) vF5 rfl
    refine A_upto 3 ?_
    rcases hr.ite with ⟨cF1, hr⟩ | ⟨cF1, hr⟩
    · obtain ⟨x, nF2, eF3, gF4, hr⟩ := hr.idx
      refine A_ops_end ?_
      obtain rfl : _ = v := hr
      exact w_k (A_cut hwf)
    · refine A_ops_end ?_
      obtain rfl : _ = v := hr
      exact w_k (A_cut hwf)
  refine A_condH hr (fun cF6 hr => ?_) (fun cF6 hr => ?_)
  · refine w_seq ?_
    obtain ⟨x1, nF7, eF8, gF9, hr⟩ := hr.idx
    refine A_region ?_
    refine w_n ?_
    refine w_seq ?_
    refine A_region ?_
    refine w_n ?_
    refine w_ret ?_
    obtain rfl := hD _ hr
    exact (w_tr (A_endR (A_cut (os' := []) (sl := [(6, .cv (.row 80 (List.map eRange (List.set l (Int.toNat (IntKind.i64.wrap ((l.length : Int) - (1 : Int)))) (TRange.mk x1.Low high)))))]) hwf) ⟨rfl, on_nil hwf⟩))
  · refine w_skip ?_
    refine w_n ?_
    refine w_seq ?_
    obtain ⟨nF10, hr⟩ := hr.room
    refine A_region ?_
    refine w_n ?_
    refine w_ret ?_
    obtain rfl := hD _ hr
    exact (A_endR (A_cut (os' := []) (sl := [(6, .cv (.row 80 (List.map eRange (l ++ ([(TRange.mk low high)])))))]) hwf) ⟨rfl, on_nil hwf⟩)
end Go.Val

/- part JW59 -/
/- scansion/scansionref02.pick runs as it is read off. -/
namespace Go.Val
set_option linter.unusedVariables false
set_option linter.unusedSimpArgs false
set_option maxRecDepth 20000
open Go.Proofs
theorem scansionref02_pick_runs (a_ : List TRange) (b : List TRange) (kind : Int) {h : Heap} {a : List TRange} (e : scansionref02_pick a_ b kind = some a) :
    Runs CT 59 [.cv (.val (.sl (List.map eRange a_))), .cv (.val (.sl (List.map eRange b))), .cv (.val (.int .i64 kind))] h fun o h' => o = [.cv (.val (.sl (List.map eRange a)))] ∧ h' = h := by
  refine Runs.start Try.f59 _ Try.func59 rfl (by rw [Try.ntmps59]; simp) (by rfl) (by rfl) (fun hwf hu => ?_)
  obtain ⟨D, hD, hr⟩ : ∃ D : List TRange → Prop, (∀ z, D z → z = a) ∧ Holds (scansionref02_pick a_ b kind) D := ⟨fun z => z = a, fun _ h => h, Holds.intro e rfl⟩
  dsimp only [scansionref02_pick] at hr
  change wpCode _ _ _ _ _ ⟨[(0, .cv (.val (.sl (List.map eRange a_)))), (1, .cv (.val (.sl (List.map eRange b)))), (2, .cv (.val (.int .i64 kind)))], h.on []⟩
  refine w_seq ?_
  refine A_region ?_
  refine w_n ?_
  refine w_seq ?_
  refine A_ops ?_
  refine A_upto 2 ?_
  obtain ⟨r, eF1, hr⟩ := hr.bind
  refine A_call (out := ?o_eF1) (hp := ?p_eF1) ?c_eF1 ?d_eF1 ?_
  case c_eF1 => exact scansionref02_edges_runs a_ b eF1
  case d_eF1 => rfl
  refine A_ops_end ?_
  refine w_n ?_
  refine w_seq ?_
  refine A_region ?_
  refine w_n ?_
  refine w_seq ?_
  refine w_seq ?_
  refine A_region ?_
  refine w_n ?_
  refine w_K (D := D) (fun xX : List TRange => ⟨[(8, .cv (.row 80 (List.map eRange xX)))], h.on []⟩) (fun xX : List TRange => scansionref02_pick.k1 xX) (fun xX s' hr ht => ?_) ?_
  · obtain ⟨out, rfl⟩ : ∃ z, z = xX := ⟨xX, rfl⟩
    dsimp only [scansionref02_pick.k1] at hr ht
    refine (w_nT ht ?_)
    refine w_seq ?_
    refine A_region ?_
    refine w_n ?_
    refine w_ret ?_
    obtain rfl := hD _ hr
    exact (A_endR (.fix _ _ (.slot 6) 80 _ (by simp (disch := (apply Apart.mk; decide)) only [go_sem, Nat.reduceAdd, Nat.reduceLT, Nat.reduceMul, Nat.reduceLeDiff, Int.reduceToNat, Int.reduceLT, Int.reduceLE]; rfl) (A_cut (os' := []) (sl := [(6, .cv (.val (.sl (List.map eRange out))))]) hwf)) ⟨rfl, on_nil hwf⟩)
  · refine w_block ?_
    refine w_Loop (fun xX : (List TRange × Int) => ⟨[(0, .cv (.val (.sl (List.map eRange a_)))), (1, .cv (.val (.sl (List.map eRange b)))), (2, .cv (.val (.int .i64 kind))), (7, .cv (.val (.sl (List.map eI r)))), (8, .cv (.row 80 (List.map eRange xX.1))), (9, .cv (.val (.int .i64 xX.2)))], h.on []⟩) hr (A_cut hwf) (fun W1 xX hr => ?_)
    obtain ⟨out1, i⟩ := xX
    dsimp only [scansionref02_pick.b1] at hr
    refine w_seq ?_
    refine w_seq ?_
    refine A_region ?_
    refine w_n ?_
    refine A_condH hr (fun cF2 hr => ?_) (fun cF2 hr => ?_)
    · refine w_skip ?_
      refine w_n ?_
      refine w_seq ?_
      refine w_K (D := (Aft W1 D)) (fun xX : List TRange => ⟨[(0, .cv (.val (.sl (List.map eRange a_)))), (1, .cv (.val (.sl (List.map eRange b)))), (2, .cv (.val (.int .i64 kind))), (7, .cv (.val (.sl (List.map eI r)))), (8, .cv (.row 80 (List.map eRange xX))), (9, .cv (.val (.int .i64 i)))], h.on []⟩) (fun xX : List TRange => scansionref02_pick.k2 i xX) (fun xX s' hr ht => ?_) ?_
      · obtain ⟨out2, rfl⟩ : ∃ z, z = xX := ⟨xX, rfl⟩
        dsimp only [scansionref02_pick.k2] at hr ht
        refine (w_nT ht ?_)
        refine A_region ?_
        exact (w_k ⟨(out2, (IntKind.i64.wrap (i + (1 : Int)))), hr, (A_cut hwf)⟩)
      · refine w_block ?_
        refine w_seq ?_
        refine A_region ?_
        refine w_n ?_
        refine w_seq ?_
        refine w_seq ?_
        refine A_region ?_
        refine w_n ?_
        refine w_K (D := (Aft W1 D)) (fun xX : Int => ⟨[(0, .cv (.val (.sl (List.map eRange a_)))), (1, .cv (.val (.sl (List.map eRange b)))), (2, .cv (.val (.int .i64 kind))), (7, .cv (.val (.sl (List.map eI r)))), (8, .cv (.row 80 (List.map eRange out1))), (9, .cv (.val (.int .i64 i))), (10, .cv (.val (.int .i64 xX)))], h.on []⟩) (fun xX : Int => scansionref02_pick.k3 a_ b kind r out1 i xX) (fun xX s' hr ht => ?_) ?_
        · obtain ⟨high, rfl⟩ : ∃ z, z = xX := ⟨xX, rfl⟩
          dsimp only [scansionref02_pick.k3] at hr ht
          refine (w_nT ht ?_)
          refine w_seq ?_
          refine A_ops ?_
          obtain ⟨n, nF3, eF4, gF5, hr⟩ := hr.idx
          refine A_upto 5 ?_
          obtain ⟨r1, eF6, hr⟩ := hr.bind
          refine A_call (out := ?o_eF6) (hp := ?p_eF6) ?c_eF6 ?d_eF6 ?_
          case c_eF6 => exact scansionref02_Has_runs a_ n eF6
          case d_eF6 => rfl
          refine A_ops_end ?_
          refine w_n ?_
          refine w_seq ?_
          refine A_ops ?_
          refine A_upto 5 ?_
          obtain ⟨r2, eF7, hr⟩ := hr.bind
          refine A_call (out := ?o_eF7) (hp := ?p_eF7) ?c_eF7 ?d_eF7 ?_
          case c_eF7 => exact scansionref02_Has_runs b n eF7
          case d_eF7 => rfl
          refine A_ops_end ?_
          refine w_n ?_
          refine w_joinR (sj := ⟨[(0, .cv (.val (.sl (List.map eRange a_)))), (1, .cv (.val (.sl (List.map eRange b)))), (2, .cv (.val (.int .i64 kind))), (7, .cv (.val (.sl (List.map eI r)))), (8, .cv (.row 80 (List.map eRange out1))), (9, .cv (.val (.int .i64 i))), (10, .cv (.val (.int .i64 high))), (11, .cv (.val (.bool r1))), (12, .cv (.val (.bool r2))), (13, .cv (.val (.bool (r1 || r2))))], h.on []⟩) (A_ops ?_) ?_
          · refine A_upto 2 ?_
            rcases Bool.eq_false_or_eq_true r1 with cF8 | cF8
            · refine A_ops_end ?_
              exact w_k (A_cut hwf)
            · refine A_ops_end ?_
              exact w_k (A_cut hwf)
          refine w_seq ?_
          refine w_seq ?_
          refine A_region ?_
          refine w_n ?_
          refine w_K (D := (Aft W1 D)) (fun xX : Bool => ⟨[(0, .cv (.val (.sl (List.map eRange a_)))), (1, .cv (.val (.sl (List.map eRange b)))), (2, .cv (.val (.int .i64 kind))), (7, .cv (.val (.sl (List.map eI r)))), (8, .cv (.row 80 (List.map eRange out1))), (9, .cv (.val (.int .i64 i))), (10, .cv (.val (.int .i64 high))), (13, .cv (.val (.bool xX)))], h.on []⟩) (fun xX : Bool => scansionref02_pick.k4 out1 i high n xX) (fun xX s' hr ht => ?_) ?_
          · obtain ⟨is1, rfl⟩ : ∃ z, z = xX := ⟨xX, rfl⟩
            dsimp only [scansionref02_pick.k4] at hr ht
            refine (w_nT ht ?_)
            refine w_seq ?_
            refine A_region ?_
            refine w_n ?_
            refine A_condH hr (fun cF9 hr => ?_) (fun cF9 hr => ?_)
            · refine A_ops ?_
              refine A_upto 6 ?_
              obtain ⟨r3, eF10, hr⟩ := hr.bind
              refine A_call (out := ?o_eF10) (hp := ?p_eF10) ?c_eF10 ?d_eF10 ?_
              case c_eF10 => exact scansionref02_with_runs out1 n high eF10
              case d_eF10 => rfl
              refine A_ops_end ?_
              exact (w_bn (w_k ⟨r3, hr, (A_cut hwf)⟩))
            · refine w_skip ?_
              exact (w_bn (w_k ⟨out1, hr, (A_cut hwf)⟩))
          · refine w_block ?_
            refine w_seq ?_
            refine A_region ?_
            refine w_n ?_
            refine A_condH hr (fun cF11 hr => ?_) (fun cF11 hr => ?_)
            · refine A_ops ?_
              refine A_upto 2 ?_
              rcases hr.ite with ⟨cF12, hr⟩ | ⟨cF12, hr⟩
              · refine A_ops_end ?_
                exact (w_bn (w_k ⟨r2, hr, (A_cut hwf)⟩))
              · refine A_ops_end ?_
                exact (w_bn (w_k ⟨false, hr, (A_cut hwf)⟩))
            · refine w_seq ?_
              refine A_region ?_
              refine w_n ?_
              refine A_condH hr (fun cF13 hr => ?_) (fun cF13 hr => ?_)
              · refine A_ops ?_
                refine A_upto 2 ?_
                rcases hr.ite with ⟨cF14, hr⟩ | ⟨cF14, hr⟩
                · refine A_ops_end ?_
                  exact (w_bn (w_k ⟨(!r2), hr, (A_cut hwf)⟩))
                · refine A_ops_end ?_
                  exact (w_bn (w_k ⟨false, hr, (A_cut hwf)⟩))
              · refine w_seq ?_
                refine A_region ?_
                refine w_n ?_
                refine A_condH hr (fun cF15 hr => ?_) (fun cF15 hr => ?_)
                · refine A_ops ?_
                  refine A_upto 3 ?_
                  rcases hr.ite with ⟨cF16, hr⟩ | ⟨cF16, hr⟩
                  · refine A_ops_end ?_
                    exact (w_bn (w_k ⟨(!r2), hr, (A_cut hwf)⟩))
                  · refine A_ops_end ?_
                    exact (w_bn (w_k ⟨false, hr, (A_cut hwf)⟩))
                · refine w_skip ?_
                  exact (w_bn (w_k ⟨(r1 || r2), hr, (A_cut hwf)⟩))
        · refine A_condH hr (fun cF17 hr => ?_) (fun cF17 hr => ?_)
          · obtain ⟨n1, nF18, eF19, gF20, hr⟩ := hr.idx
            refine A_region ?_
            exact (w_k ⟨(IntKind.i64.wrap (n1 - (1 : Int))), hr, (A_cut hwf)⟩)
          · refine w_skip ?_
            exact (w_k ⟨(1114111 : Int), hr, (A_cut hwf)⟩)
    · refine w_exit ?_
      exact (w_te (w_te (w_bx (w_k ⟨out1, (hr).map, (A_cut hwf)⟩))))
end Go.Val

/- part JW21 -/
/- scansion/scansionref02.Make runs as it is read off. -/
namespace Go.Val
set_option linter.unusedVariables false
set_option linter.unusedSimpArgs false
set_option maxRecDepth 20000
open Go.Proofs
theorem scansionref02_Make_runs (l : List TRange) {h : Heap} {a : (List TRange × Int)} (e : scansionref02_Make l = some a) :
    Runs CT 21 [.cv (.val (.sl (List.map eRange l)))] h fun o h' => o = [.cv (.val (.sl (List.map eRange a.1))), .cv (.val (.int .i64 a.2))] ∧ h' = h := by
  refine Runs.start Try.f21 _ Try.func21 rfl (by rw [Try.ntmps21]; simp) (by rfl) (by rfl) (fun hwf hu => ?_)
  obtain ⟨D, hD, hr⟩ : ∃ D : (List TRange × Int) → Prop, (∀ z, D z → z = a) ∧ Holds (scansionref02_Make l) D := ⟨fun z => z = a, fun _ h => h, Holds.intro e rfl⟩
  dsimp only [scansionref02_Make] at hr
  change wpCode _ _ _ _ _ ⟨[(0, .cv (.val (.sl (List.map eRange l))))], h.on []⟩
  refine w_seq ?_
  refine A_region ?_
  refine w_n ?_
  refine w_seq ?_
  refine w_seq ?_
  refine A_region ?_
  refine w_n ?_
  refine w_K (D := D) (fun xX : Unit => ⟨[(0, .cv (.val (.sl (List.map eRange l))))], h.on []⟩) (fun xX : Unit => scansionref02_Make.k1 l) (fun xX s' hr ht => ?_) ?_
  · dsimp only [scansionref02_Make.k1] at hr ht
    refine (w_nT ht ?_)
    refine w_seq ?_
    refine A_ops ?_
    refine A_upto 1 ?_
    obtain ⟨r, eF1, hr⟩ := hr.bind
    refine A_call (out := ?o_eF1) (hp := ?p_eF1) ?c_eF1 ?d_eF1 ?_
    case c_eF1 => exact scansionref02_pick_runs l [] (0 : Int) eF1
    case d_eF1 => rfl
    refine A_ops_end ?_
    refine w_n ?_
    refine w_ret ?_
    obtain rfl := hD _ hr
    exact (A_endR (A_cut (os' := []) (sl := [(2, .cv (.val (.sl (List.map eRange r)))), (3, .cv (.val (.int .i64 (0 : Int))))]) hwf) ⟨rfl, on_nil hwf⟩)
  · refine w_block ?_
    refine w_Loop (fun xX : Int => ⟨[(0, .cv (.val (.sl (List.map eRange l)))), (4, .cv (.val (.int .i64 xX)))], h.on []⟩) hr (A_cut hwf) (fun W1 xX hr => ?_)
    obtain ⟨i, rfl⟩ : ∃ z, z = xX := ⟨xX, rfl⟩
    dsimp only [scansionref02_Make.b1] at hr
    refine w_seq ?_
    refine w_seq ?_
    refine A_region ?_
    refine w_n ?_
    refine A_condH hr (fun cF2 hr => ?_) (fun cF2 hr => ?_)
    · refine w_skip ?_
      refine w_n ?_
      refine w_seq ?_
      refine w_block ?_
      obtain ⟨v, vF8, hr⟩ := hr.bind
      refine w_joinR (sj := ⟨[(0, .cv (.val (.sl (List.map eRange l)))), (4, .cv (.val (.int .i64 i))), (37, .cv (.val (.bool v)))], h.on []⟩) (w_drawn [0, 1, 2, 3, 4, 5, 6, 7, 8, 9, 10, 11, 12, 13, 14, 15, 16, 17, 18, 19, 20, 21, 22, 23, 24, 25, 26] (by rfl) ?_) ?_
      · have hr := Holds.intro (D := fun z => z = v) vF8 rfl
        obtain ⟨x, nF3, eF4, gF5, hr⟩ := hr.idx
        refine p_run (l := [0, 1, 2, 3, 4, 5, 6]) (pend' := [6, 5, 4, 3, 2, 1, 0]) (by simp (disch := (apply Apart.mk; decide)) only [go_sem, Nat.reduceAdd, Nat.reduceLT, Nat.reduceMul, Nat.reduceLeDiff, Int.reduceToNat, Int.reduceLT, Int.reduceLE, nF3, eF4, gF5]; rfl) rfl ?_
        rcases hr.ite with ⟨cF6, hr⟩ | ⟨cF6, hr⟩
        · refine p_run (l := [7, 8, 9, 10, 11, 12, 13, 14, 15, 16, 17, 18, 19, 20, 21, 22, 23, 24, 25, 26]) (pend' := [26, 25, 24, 23, 22, 21, 20, 19, 18, 17, 16, 15, 14, 13, 12, 11, 10, 9, 8, 7, 6, 5, 4, 3, 2, 1, 0]) (by simp (disch := (apply Apart.mk; decide)) only [go_sem, Nat.reduceAdd, Nat.reduceLT, Nat.reduceMul, Nat.reduceLeDiff, Int.reduceToNat, Int.reduceLT, Int.reduceLE, nF3, eF4, gF5, cF6]; rfl) rfl ?_
          refine p_end (by simp (disch := (apply Apart.mk; decide)) only [go_sem, Nat.reduceAdd, Nat.reduceLT, Nat.reduceMul, Nat.reduceLeDiff, Int.reduceToNat, Int.reduceLT, Int.reduceLE, nF3, eF4, gF5, cF6]) ?_
          obtain rfl : _ = v := hr
          exact w_k (A_cut hwf)
        · refine p_run (l := [7, 8, 9, 10, 11, 12, 13, 14]) (pend' := [14, 13, 12, 11, 10, 9, 8, 7, 6, 5, 4, 3, 2, 1, 0]) (by simp (disch := (apply Apart.mk; decide)) only [go_sem, Nat.reduceAdd, Nat.reduceLT, Nat.reduceMul, Nat.reduceLeDiff, Int.reduceToNat, Int.reduceLT, Int.reduceLE, nF3, eF4, gF5, cF6]; rfl) rfl ?_
          rcases hr.ite with ⟨cF7, hr⟩ | ⟨cF7, hr⟩
          · refine p_run (l := [15, 16, 17, 18, 19, 20, 21, 22, 23, 24, 25, 26]) (pend' := [26, 25, 24, 23, 22, 21, 20, 19, 18, 17, 16, 15, 14, 13, 12, 11, 10, 9, 8, 7, 6, 5, 4, 3, 2, 1, 0]) (by simp (disch := (apply Apart.mk; decide)) only [go_sem, Nat.reduceAdd, Nat.reduceLT, Nat.reduceMul, Nat.reduceLeDiff, Int.reduceToNat, Int.reduceLT, Int.reduceLE, nF3, eF4, gF5, cF6, cF7]; rfl) rfl ?_
            refine p_end (by simp (disch := (apply Apart.mk; decide)) only [go_sem, Nat.reduceAdd, Nat.reduceLT, Nat.reduceMul, Nat.reduceLeDiff, Int.reduceToNat, Int.reduceLT, Int.reduceLE, nF3, eF4, gF5, cF6, nF3, eF4, gF5, cF7]) ?_
            obtain rfl : _ = v := hr
            exact w_k (A_cut hwf)
          · refine p_run (l := [15, 16, 17, 18, 19, 20, 21, 22, 23, 24, 25, 26]) (pend' := [26, 25, 24, 23, 22, 21, 20, 19, 18, 17, 16, 15, 14, 13, 12, 11, 10, 9, 8, 7, 6, 5, 4, 3, 2, 1, 0]) (by simp (disch := (apply Apart.mk; decide)) only [go_sem, Nat.reduceAdd, Nat.reduceLT, Nat.reduceMul, Nat.reduceLeDiff, Int.reduceToNat, Int.reduceLT, Int.reduceLE, nF3, eF4, gF5, cF6, cF7]; rfl) rfl ?_
            refine p_end (by simp (disch := (apply Apart.mk; decide)) only [go_sem, Nat.reduceAdd, Nat.reduceLT, Nat.reduceMul, Nat.reduceLeDiff, Int.reduceToNat, Int.reduceLT, Int.reduceLE, nF3, eF4, gF5, cF6, nF3, eF4, gF5, cF7, nF3, eF4, gF5, nF3, eF4, gF5]) ?_
            obtain rfl : _ = v := hr
            exact w_k (A_cut hwf)
      refine A_condH hr (fun cF9 hr => ?_) (fun cF9 hr => ?_)
      · refine w_seq ?_
        refine A_region ?_
        refine w_n ?_
        refine w_ret ?_
        obtain rfl := hD _ hr
        exact (w_br (w_tr (w_tr (w_br (w_tr (w_tr (A_endR (A_cut (os' := []) (sl := [(2, .cv (.val (.sl (List.map eRange ([] : List TRange))))), (3, .cv (.val (.int .i64 (1 : Int))))]) hwf) ⟨rfl, on_nil hwf⟩)))))))
      · refine w_skip ?_
        refine (w_bn (w_n ?_))
        refine A_region ?_
        exact (w_k ⟨(IntKind.i64.wrap (i + (1 : Int))), hr, (A_cut hwf)⟩)
    · refine w_exit ?_
      exact (w_te (w_te (w_bx (w_k ⟨(), (hr).map, (A_cut hwf)⟩))))
end Go.Val

/- part JW26 -/
/- scansion/scansionlaw09.sets runs as it is read off. -/
namespace Go.Val
set_option linter.unusedVariables false
set_option linter.unusedSimpArgs false
set_option maxRecDepth 20000
open Go.Proofs
theorem scansionlaw09_sets_runs (l : List (List TRange)) {h : Heap} {a : List (List TRange)} (e : scansionlaw09_sets l = some a) :
    Runs CT 26 [.cv (.val (.sl (List.map (eL eRange) l)))] h fun o h' => o = [.cv (.val (.sl (List.map (eL eRange) a)))] ∧ h' = h := by
  refine Runs.start Try.f26 _ Try.func26 rfl (by rw [Try.ntmps26]; simp) (by rfl) (by rfl) (fun hwf hu => ?_)
  obtain ⟨D, hD, hr⟩ : ∃ D : List (List TRange) → Prop, (∀ z, D z → z = a) ∧ Holds (scansionlaw09_sets l) D := ⟨fun z => z = a, fun _ h => h, Holds.intro e rfl⟩
  dsimp only [scansionlaw09_sets] at hr
  change wpCode _ _ _ _ _ ⟨[(0, .cv (.val (.sl (List.map (eL eRange) l))))], h.on []⟩
  refine w_seq ?_
  refine A_region ?_
  refine w_n ?_
  refine w_seq ?_
  refine A_region ?_
  refine w_n ?_
  refine w_seq ?_
  refine w_seq ?_
  refine A_region ?_
  refine w_n ?_
  refine w_K (D := D) (fun xX : List (List TRange) => ⟨[(3, .cv (.row 31 (List.map (eL eRange) xX)))], h.on []⟩) (fun xX : List (List TRange) => scansionlaw09_sets.k1 xX) (fun xX s' hr ht => ?_) ?_
  · obtain ⟨out, rfl⟩ : ∃ z, z = xX := ⟨xX, rfl⟩
    dsimp only [scansionlaw09_sets.k1] at hr ht
    refine (w_nT ht ?_)
    refine w_seq ?_
    refine A_region ?_
    refine w_n ?_
    refine w_ret ?_
    obtain rfl := hD _ hr
    exact (A_endR (.fix _ _ (.slot 2) 31 _ (by simp (disch := (apply Apart.mk; decide)) only [go_sem, Nat.reduceAdd, Nat.reduceLT, Nat.reduceMul, Nat.reduceLeDiff, Int.reduceToNat, Int.reduceLT, Int.reduceLE]; rfl) (A_cut (os' := []) (sl := [(2, .cv (.val (.sl (List.map (eL eRange) out))))]) hwf)) ⟨rfl, on_nil hwf⟩)
  · refine w_block ?_
    refine w_Loop (fun xX : (List (List TRange) × Int) => ⟨[(0, .cv (.val (.sl (List.map (eL eRange) l)))), (3, .cv (.row 31 (List.map (eL eRange) xX.1))), (4, .cv (.val (.int .i64 xX.2)))], h.on []⟩) hr (A_cut hwf) (fun W1 xX hr => ?_)
    obtain ⟨out1, i⟩ := xX
    dsimp only [scansionlaw09_sets.b1] at hr
    refine w_seq ?_
    refine w_seq ?_
    refine A_region ?_
    refine w_n ?_
    refine A_condH hr (fun cF1 hr => ?_) (fun cF1 hr => ?_)
    · refine w_skip ?_
      refine w_n ?_
      refine w_seq ?_
      refine w_block ?_
      refine w_seq ?_
      refine A_ops ?_
      obtain ⟨xs, nF2, eF3, gF4, hr⟩ := hr.idx
      refine A_upto 4 ?_
      obtain ⟨r, eF5, hr⟩ := hr.bind
      refine A_call (out := ?o_eF5) (hp := ?p_eF5) ?c_eF5 ?d_eF5 ?_
      case c_eF5 => exact scansionref02_Make_runs xs eF5
      case d_eF5 => rfl
      refine A_ops_end ?_
      refine w_n ?_
      obtain ⟨nF6, hr⟩ := hr.room
      refine A_region ?_
      refine (w_bn (w_n ?_))
      refine A_region ?_
      exact (w_k ⟨((out1 ++ ([r.1])), (IntKind.i64.wrap (i + (1 : Int)))), hr, (A_cut hwf)⟩)
    · refine w_exit ?_
      exact (w_te (w_te (w_bx (w_k ⟨out1, (hr).map, (A_cut hwf)⟩))))
end Go.Val

/- part JW11 -/
/- scansion/scansionlaw09.AlphabetTurned runs as it is read off. -/
namespace Go.Val
set_option linter.unusedVariables false
set_option linter.unusedSimpArgs false
set_option maxRecDepth 20000
set_option maxHeartbeats 2000000
open Go.Proofs
theorem scansionlaw09_AlphabetTurned_runs (l : List (List TRange)) (x : Int) (y : Int) {h : Heap} {a : Bool} (e : scansionlaw09_AlphabetTurned l x y = some a) :
    Runs CT 11 [.cv (.val (.sl (List.map (eL eRange) l))), .cv (.val (.int .i64 x)), .cv (.val (.int .i64 y))] h fun o h' => o = [.cv (.val (.bool a))] ∧ h' = h := by
  refine Runs.start Try.f11 _ Try.func11 rfl (by rw [Try.ntmps11]; simp) (by rfl) (by rfl) (fun hwf hu => ?_)
  obtain ⟨D, hD, hr⟩ : ∃ D : Bool → Prop, (∀ z, D z → z = a) ∧ Holds (scansionlaw09_AlphabetTurned l x y) D := ⟨fun z => z = a, fun _ h => h, Holds.intro e rfl⟩
  dsimp only [scansionlaw09_AlphabetTurned] at hr
  change wpCode _ _ _ _ _ ⟨[(0, .cv (.val (.sl (List.map (eL eRange) l)))), (1, .cv (.val (.int .i64 x))), (2, .cv (.val (.int .i64 y)))], h.on []⟩
  refine w_seq ?_
  refine A_region ?_
  refine w_n ?_
  refine w_seq ?_
  refine A_ops ?_
  obtain ⟨r, eF1, hr⟩ := hr.bind
  refine A_call (out := ?o_eF1) (hp := ?p_eF1) ?c_eF1 ?d_eF1 ?_
  case c_eF1 => exact scansionlaw09_awake_runs  eF1
  case d_eF1 => rfl
  refine A_ops_end ?_
  refine w_n ?_
  refine w_seq ?_
  refine A_ops ?_
  refine A_upto 1 ?_
  obtain ⟨r1, eF2, hr⟩ := hr.bind
  refine A_call (out := ?o_eF2) (hp := ?p_eF2) ?c_eF2 ?d_eF2 ?_
  case c_eF2 => exact scansionlaw09_few_runs l eF2
  case d_eF2 => rfl
  refine A_ops_end ?_
  refine w_n ?_
  refine w_seq ?_
  refine w_joinR (sj := ⟨[(0, .cv (.val (.sl (List.map (eL eRange) l)))), (1, .cv (.val (.int .i64 x))), (2, .cv (.val (.int .i64 y))), (7, .cv (.val (.bool r))), (31, .cv (.val (.bool ((!r) || ((!r1) || (decide ((l.length : Int) > (20 : Int))))))))], h.on []⟩) (A_ops ?_) ?_
  · refine A_upto 3 ?_
    rcases Bool.eq_false_or_eq_true (!r) with cF3 | cF3
    · refine A_ops_end ?_
      exact w_k (A_cut hwf)
    · refine A_upto 4 ?_
      rcases Bool.eq_false_or_eq_true (!r1) with cF4 | cF4
      · refine A_ops_end ?_
        exact w_k (A_cut hwf)
      · refine A_ops_end ?_
        exact w_k (A_cut hwf)
  refine A_condH hr (fun cF5 hr => ?_) (fun cF5 hr => ?_)
  · refine w_seq ?_
    refine A_region ?_
    refine w_n ?_
    refine w_ret ?_
    obtain rfl := hD _ hr
    exact (w_tr (A_endR (A_cut (os' := []) (sl := [(6, .cv (.val (.bool r)))]) hwf) ⟨rfl, on_nil hwf⟩))
  · refine w_skip ?_
    refine w_n ?_
    refine w_seq ?_
    refine A_ops ?_
    refine A_upto 1 ?_
    obtain ⟨r2, eF6, hr⟩ := hr.bind
    refine A_call (out := ?o_eF6) (hp := ?p_eF6) ?c_eF6 ?d_eF6 ?_
    case c_eF6 => exact scansionlaw09_sets_runs l eF6
    case d_eF6 => rfl
    refine A_ops_end ?_
    refine w_n ?_
    refine w_seq ?_
    refine A_region ?_
    refine w_n ?_
    refine w_seq ?_
    refine w_seq ?_
    refine A_region ?_
    refine w_n ?_
    refine w_K (D := D) (fun xX : List (List TRange) => ⟨[(1, .cv (.val (.int .i64 x))), (2, .cv (.val (.int .i64 y))), (9, .cv (.val (.sl (List.map (eL eRange) r2)))), (10, .cv (.row 31 (List.map (eL eRange) xX)))], h.on []⟩) (fun xX : List (List TRange) => scansionlaw09_AlphabetTurned.k1 x y r2 xX) (fun xX s' hr ht => ?_) ?_
    · obtain ⟨back, rfl⟩ : ∃ z, z = xX := ⟨xX, rfl⟩
      dsimp only [scansionlaw09_AlphabetTurned.k1] at hr ht
      refine (w_nT ht ?_)
      refine w_seq ?_
      refine A_ops ?_
      refine A_upto 1 ?_
      obtain ⟨r3, eF7, hr⟩ := hr.bind
      try dsimp only at hr
      rcases xF48 : r3.1 with _ | y1
      · rw [xF48] at hr
        dsimp only at hr
        refine A_call (out := ?o_eF7a) (hp := ?p_eF7a) ?c_eF7a ?d_eF7a ?_
        case c_eF7a => exact alphabet_New_runs_none r2 eF7 xF48
        case d_eF7a => rfl
        refine A_ops_end ?_
        refine w_n ?_
        refine w_seq ?_
        refine A_ops ?_
        refine A_upto 1 ?_
        obtain ⟨r4, eF8, hr⟩ := hr.bind
        try dsimp only at hr
        rcases xF13 : r4.1 with _ | y2
        · rw [xF13] at hr
          dsimp only at hr
          refine A_call (out := ?o_eF8a) (hp := ?p_eF8a) ?c_eF8a ?d_eF8a ?_
          case c_eF8a => exact alphabet_New_runs_none back eF8 xF13
          case d_eF8a => rfl
          refine A_ops_end ?_
          refine w_n ?_
          refine w_seq ?_
          refine w_joinR (sj := ⟨[(1, .cv (.val (.int .i64 x))), (2, .cv (.val (.int .i64 y))), (9, .cv (.val (.sl (List.map (eL eRange) r2)))), (12, .cv (.val (.ptr none))), (13, .cv (.val (.int .i64 r3.2))), (14, .cv (.val (.ptr none))), (15, .cv (.val (.int .i64 r4.2))), (64, .cv (.val (.bool ((r3.2 != (0 : Int)) || (r4.2 != (0 : Int))))))], h.on []⟩) (A_ops ?_) ?_
          · refine A_upto 3 ?_
            rcases Bool.eq_false_or_eq_true (r3.2 != (0 : Int)) with cF9 | cF9
            · refine A_ops_end ?_
              exact w_k (A_cut hwf)
            · refine A_ops_end ?_
              exact w_k (A_cut hwf)
          refine A_condH hr (fun cF10 hr => ?_) (fun cF10 hr => ?_)
          · refine w_seq ?_
            refine A_region ?_
            refine w_n ?_
            refine w_ret ?_
            obtain rfl := hD _ hr
            exact (w_tr (A_endR (A_cut (os' := []) (sl := [(6, .cv (.val (.bool (r3.2 == r4.2))))]) hwf) ⟨rfl, on_nil hwf⟩))
          · refine w_skip ?_
            refine w_n ?_
            refine w_seq ?_
            refine w_seq ?_
            exact hr.elim
        · rw [xF13] at hr
          dsimp only at hr
          refine A_call (out := ?o_eF8b) (hp := ?p_eF8b) ?c_eF8b ?d_eF8b ?_
          case c_eF8b => exact alphabet_New_runs_some back eF8 xF13
          case d_eF8b => rfl
          refine A_ops_end ?_
          refine w_n ?_
          refine w_seq ?_
          refine w_joinR (sj := ⟨[(1, .cv (.val (.int .i64 x))), (2, .cv (.val (.int .i64 y))), (9, .cv (.val (.sl (List.map (eL eRange) r2)))), (12, .cv (.val (.ptr none))), (13, .cv (.val (.int .i64 r3.2))), (14, .cv (.val (.ptr (some (h.n + 0, 0))))), (15, .cv (.val (.int .i64 r4.2))), (64, .cv (.val (.bool ((r3.2 != (0 : Int)) || (r4.2 != (0 : Int))))))], h.on [some (.cells [.val (.ptr (some (h.n + 1, 0))), .val (.sl (List.map (eK .u64) y2.masks)), .val (.sl (List.map eI y2.least))]), some (.cells (avals eU y2.trie.like ++ ([.val (.sl (List.map (eA eU) y2.trie.first))] : List CV)))]⟩) (A_ops ?_) ?_
          · refine A_upto 3 ?_
            rcases Bool.eq_false_or_eq_true (r3.2 != (0 : Int)) with cF11 | cF11
            · refine A_ops_end ?_
              exact w_k (A_cut hwf)
            · refine A_ops_end ?_
              exact w_k (A_cut hwf)
          refine A_condH hr (fun cF12 hr => ?_) (fun cF12 hr => ?_)
          · refine w_seq ?_
            refine A_region ?_
            refine w_n ?_
            refine w_ret ?_
            obtain rfl := hD _ hr
            exact (w_tr (A_endR (A_cut (os' := []) (sl := [(6, .cv (.val (.bool (r3.2 == r4.2))))]) hwf) ⟨rfl, on_nil hwf⟩))
          · refine w_skip ?_
            refine w_n ?_
            refine w_seq ?_
            refine w_seq ?_
            exact hr.elim
      · rw [xF48] at hr
        dsimp only at hr
        refine A_call (out := ?o_eF7b) (hp := ?p_eF7b) ?c_eF7b ?d_eF7b ?_
        case c_eF7b => exact alphabet_New_runs_some r2 eF7 xF48
        case d_eF7b => rfl
        refine A_ops_end ?_
        refine w_n ?_
        refine w_seq ?_
        refine A_ops ?_
        refine A_upto 1 ?_
        obtain ⟨r5, eF14, hr⟩ := hr.bind
        try dsimp only at hr
        rcases xF47 : r5.1 with _ | y3
        · rw [xF47] at hr
          dsimp only at hr
          refine A_call (out := ?o_eF14a) (hp := ?p_eF14a) ?c_eF14a ?d_eF14a ?_
          case c_eF14a => exact alphabet_New_runs_none back eF14 xF47
          case d_eF14a => rfl
          refine A_ops_end ?_
          refine w_n ?_
          refine w_seq ?_
          refine w_joinR (sj := ⟨[(1, .cv (.val (.int .i64 x))), (2, .cv (.val (.int .i64 y))), (9, .cv (.val (.sl (List.map (eL eRange) r2)))), (12, .cv (.val (.ptr (some (h.n + 0, 0))))), (13, .cv (.val (.int .i64 r3.2))), (14, .cv (.val (.ptr none))), (15, .cv (.val (.int .i64 r5.2))), (64, .cv (.val (.bool ((r3.2 != (0 : Int)) || (r5.2 != (0 : Int))))))], h.on [some (.cells [.val (.ptr (some (h.n + 1, 0))), .val (.sl (List.map (eK .u64) y1.masks)), .val (.sl (List.map eI y1.least))]), some (.cells (avals eU y1.trie.like ++ ([.val (.sl (List.map (eA eU) y1.trie.first))] : List CV)))]⟩) (A_ops ?_) ?_
          · refine A_upto 3 ?_
            rcases Bool.eq_false_or_eq_true (r3.2 != (0 : Int)) with cF15 | cF15
            · refine A_ops_end ?_
              exact w_k (A_cut hwf)
            · refine A_ops_end ?_
              exact w_k (A_cut hwf)
          refine A_condH hr (fun cF16 hr => ?_) (fun cF16 hr => ?_)
          · refine w_seq ?_
            refine A_region ?_
            refine w_n ?_
            refine w_ret ?_
            obtain rfl := hD _ hr
            exact (w_tr (A_endR (A_cut (os' := []) (sl := [(6, .cv (.val (.bool (r3.2 == r5.2))))]) hwf) ⟨rfl, on_nil hwf⟩))
          · refine w_skip ?_
            refine w_n ?_
            refine w_seq ?_
            refine w_seq ?_
            obtain ⟨r6, eF17, hr⟩ := hr.bind
            exact hr.elim
        · rw [xF47] at hr
          dsimp only at hr
          refine A_call (out := ?o_eF14b) (hp := ?p_eF14b) ?c_eF14b ?d_eF14b ?_
          case c_eF14b => exact alphabet_New_runs_some back eF14 xF47
          case d_eF14b => rfl
          refine A_ops_end ?_
          refine w_n ?_
          refine w_seq ?_
          refine w_joinR (sj := ⟨[(1, .cv (.val (.int .i64 x))), (2, .cv (.val (.int .i64 y))), (9, .cv (.val (.sl (List.map (eL eRange) r2)))), (12, .cv (.val (.ptr (some (h.n + 0, 0))))), (13, .cv (.val (.int .i64 r3.2))), (14, .cv (.val (.ptr (some (h.n + 2, 0))))), (15, .cv (.val (.int .i64 r5.2))), (64, .cv (.val (.bool ((r3.2 != (0 : Int)) || (r5.2 != (0 : Int))))))], h.on [some (.cells [.val (.ptr (some (h.n + 1, 0))), .val (.sl (List.map (eK .u64) y1.masks)), .val (.sl (List.map eI y1.least))]), some (.cells (avals eU y1.trie.like ++ ([.val (.sl (List.map (eA eU) y1.trie.first))] : List CV))), some (.cells [.val (.ptr (some (h.n + 3, 0))), .val (.sl (List.map (eK .u64) y3.masks)), .val (.sl (List.map eI y3.least))]), some (.cells (avals eU y3.trie.like ++ ([.val (.sl (List.map (eA eU) y3.trie.first))] : List CV)))]⟩) (A_ops ?_) ?_
          · refine A_upto 3 ?_
            rcases Bool.eq_false_or_eq_true (r3.2 != (0 : Int)) with cF18 | cF18
            · refine A_ops_end ?_
              exact w_k (A_cut hwf)
            · refine A_ops_end ?_
              exact w_k (A_cut hwf)
          refine A_condH hr (fun cF19 hr => ?_) (fun cF19 hr => ?_)
          · refine w_seq ?_
            refine A_region ?_
            refine w_n ?_
            refine w_ret ?_
            obtain rfl := hD _ hr
            exact (w_tr (A_endR (A_cut (os' := []) (sl := [(6, .cv (.val (.bool (r3.2 == r5.2))))]) hwf) ⟨rfl, on_nil hwf⟩))
          · refine w_skip ?_
            refine w_n ?_
            refine w_seq ?_
            obtain ⟨v5, vF27, hr⟩ := hr.bind
            refine w_joinR (sj := ⟨[(1, .cv (.val (.int .i64 x))), (2, .cv (.val (.int .i64 y))), (9, .cv (.val (.sl (List.map (eL eRange) r2)))), (12, .cv (.val (.ptr (some (h.n + 0, 0))))), (89, .cv (.val (.bool v5)))], h.on [some (.cells [.val (.ptr (some (h.n + 1, 0))), .val (.sl (List.map (eK .u64) y1.masks)), .val (.sl (List.map eI y1.least))]), some (.cells (avals eU y1.trie.like ++ ([.val (.sl (List.map (eA eU) y1.trie.first))] : List CV)))]⟩) (A_ops ?_) ?_
            · have hr := Holds.intro (D := fun z => z = v5) vF27 rfl
              refine A_upto 1 ?_
              obtain ⟨r7, eF20, hr⟩ := hr.bind
              refine A_call (out := ?o_eF20) (hp := ?p_eF20) ?c_eF20 ?d_eF20 ?_
              case c_eF20 => (refine alphabet_Alphabet_Count_runs y1 (h.n + 0) (h.n + 1) ?_ ?_ ?_ eF20; (simp (disch := (apply Apart.mk; decide)) only [go_sem, Nat.reduceAdd, Nat.reduceLT, Nat.reduceMul, Nat.reduceLeDiff, Int.reduceToNat, Int.reduceLT, Int.reduceLE]); (simp (disch := (apply Apart.mk; decide)) only [go_sem, Nat.reduceAdd, Nat.reduceLT, Nat.reduceMul, Nat.reduceLeDiff, Int.reduceToNat, Int.reduceLT, Int.reduceLE]); (first | omega | assumption | exact Ne.symm (by assumption)))
              case d_eF20 => rfl
              refine A_upto 1 ?_
              obtain ⟨r8, eF21, hr⟩ := hr.bind
              refine A_call (out := ?o_eF21) (hp := ?p_eF21) ?c_eF21 ?d_eF21 ?_
              case c_eF21 => (refine alphabet_Alphabet_Count_runs y3 (h.n + 2) (h.n + 3) ?_ ?_ ?_ eF21; (simp (disch := (apply Apart.mk; decide)) only [go_sem, Nat.reduceAdd, Nat.reduceLT, Nat.reduceMul, Nat.reduceLeDiff, Int.reduceToNat, Int.reduceLT, Int.reduceLE]); (simp (disch := (apply Apart.mk; decide)) only [go_sem, Nat.reduceAdd, Nat.reduceLT, Nat.reduceMul, Nat.reduceLeDiff, Int.reduceToNat, Int.reduceLT, Int.reduceLE]); (first | omega | assumption | exact Ne.symm (by assumption)))
              case d_eF21 => rfl
              refine A_upto 2 ?_
              rcases hr.ite with ⟨cF22, hr⟩ | ⟨cF22, hr⟩
              · refine A_upto 2 ?_
                refine A_off ?_
                refine A_upto 2 ?_
                refine A_off ?_
                refine A_upto 3 ?_
                refine A_off ?_
                refine A_upto 2 ?_
                refine A_off ?_
                refine A_ops_end ?_
                obtain rfl : _ = v5 := hr
                exact w_k (A_cut hwf)
              · refine A_upto 2 ?_
                obtain ⟨r9, eF23, hr⟩ := hr.bind
                refine w_call' (out := ?o_eF23) (hp := ?p_eF23) (by simp (disch := (apply Apart.mk; decide)) only [go_sem, Nat.reduceAdd, Nat.reduceLT, Nat.reduceMul, Nat.reduceLeDiff, Int.reduceToNat, Int.reduceLT, Int.reduceLE, Option.getD_some, cF22]) (by simp (disch := (apply Apart.mk; decide)) only [go_sem, Nat.reduceAdd, Nat.reduceLT, Nat.reduceMul, Nat.reduceLeDiff, Int.reduceToNat, Int.reduceLT, Int.reduceLE, Option.getD_some, cF22]; rfl) (by simp (disch := (apply Apart.mk; decide)) only [go_sem, Nat.reduceAdd, Nat.reduceLT, Nat.reduceMul, Nat.reduceLeDiff, Int.reduceToNat, Int.reduceLT, Int.reduceLE, Option.getD_some, cF22]; rfl) (by simp (disch := (apply Apart.mk; decide)) only [go_sem, Nat.reduceAdd, Nat.reduceLT, Nat.reduceMul, Nat.reduceLeDiff, Int.reduceToNat, Int.reduceLT, Int.reduceLE, Option.getD_some, cF22]; rfl) ?c_eF23 ?d_eF23 ?_
                case c_eF23 => (refine alphabet_Alphabet_Of_runs y1 x (h.n + 0) (h.n + 1) ?_ ?_ ?_ eF23; (simp (disch := (apply Apart.mk; decide)) only [go_sem, Nat.reduceAdd, Nat.reduceLT, Nat.reduceMul, Nat.reduceLeDiff, Int.reduceToNat, Int.reduceLT, Int.reduceLE]); (simp (disch := (apply Apart.mk; decide)) only [go_sem, Nat.reduceAdd, Nat.reduceLT, Nat.reduceMul, Nat.reduceLeDiff, Int.reduceToNat, Int.reduceLT, Int.reduceLE]); (first | omega | assumption | exact Ne.symm (by assumption)))
                case d_eF23 => rfl
                refine A_upto 2 ?_
                obtain ⟨r10, eF24, hr⟩ := hr.bind
                refine w_call' (out := ?o_eF24) (hp := ?p_eF24) (by simp (disch := (apply Apart.mk; decide)) only [go_sem, Nat.reduceAdd, Nat.reduceLT, Nat.reduceMul, Nat.reduceLeDiff, Int.reduceToNat, Int.reduceLT, Int.reduceLE, Option.getD_some, cF22]) (by simp (disch := (apply Apart.mk; decide)) only [go_sem, Nat.reduceAdd, Nat.reduceLT, Nat.reduceMul, Nat.reduceLeDiff, Int.reduceToNat, Int.reduceLT, Int.reduceLE, Option.getD_some, cF22]; rfl) (by simp (disch := (apply Apart.mk; decide)) only [go_sem, Nat.reduceAdd, Nat.reduceLT, Nat.reduceMul, Nat.reduceLeDiff, Int.reduceToNat, Int.reduceLT, Int.reduceLE, Option.getD_some, cF22]; rfl) (by simp (disch := (apply Apart.mk; decide)) only [go_sem, Nat.reduceAdd, Nat.reduceLT, Nat.reduceMul, Nat.reduceLeDiff, Int.reduceToNat, Int.reduceLT, Int.reduceLE, Option.getD_some, cF22]; rfl) ?c_eF24 ?d_eF24 ?_
                case c_eF24 => (refine alphabet_Alphabet_Of_runs y1 y (h.n + 0) (h.n + 1) ?_ ?_ ?_ eF24; (simp (disch := (apply Apart.mk; decide)) only [go_sem, Nat.reduceAdd, Nat.reduceLT, Nat.reduceMul, Nat.reduceLeDiff, Int.reduceToNat, Int.reduceLT, Int.reduceLE]); (simp (disch := (apply Apart.mk; decide)) only [go_sem, Nat.reduceAdd, Nat.reduceLT, Nat.reduceMul, Nat.reduceLeDiff, Int.reduceToNat, Int.reduceLT, Int.reduceLE]); (first | omega | assumption | exact Ne.symm (by assumption)))
                case d_eF24 => rfl
                refine A_upto 3 ?_
                obtain ⟨r11, eF25, hr⟩ := hr.bind
                refine w_call' (out := ?o_eF25) (hp := ?p_eF25) (by simp (disch := (apply Apart.mk; decide)) only [go_sem, Nat.reduceAdd, Nat.reduceLT, Nat.reduceMul, Nat.reduceLeDiff, Int.reduceToNat, Int.reduceLT, Int.reduceLE, Option.getD_some, cF22]) (by simp (disch := (apply Apart.mk; decide)) only [go_sem, Nat.reduceAdd, Nat.reduceLT, Nat.reduceMul, Nat.reduceLeDiff, Int.reduceToNat, Int.reduceLT, Int.reduceLE, Option.getD_some, cF22]; rfl) (by simp (disch := (apply Apart.mk; decide)) only [go_sem, Nat.reduceAdd, Nat.reduceLT, Nat.reduceMul, Nat.reduceLeDiff, Int.reduceToNat, Int.reduceLT, Int.reduceLE, Option.getD_some, cF22]; rfl) (by simp (disch := (apply Apart.mk; decide)) only [go_sem, Nat.reduceAdd, Nat.reduceLT, Nat.reduceMul, Nat.reduceLeDiff, Int.reduceToNat, Int.reduceLT, Int.reduceLE, Option.getD_some, cF22]; rfl) ?c_eF25 ?d_eF25 ?_
                case c_eF25 => (refine alphabet_Alphabet_Of_runs y3 x (h.n + 2) (h.n + 3) ?_ ?_ ?_ eF25; (simp (disch := (apply Apart.mk; decide)) only [go_sem, Nat.reduceAdd, Nat.reduceLT, Nat.reduceMul, Nat.reduceLeDiff, Int.reduceToNat, Int.reduceLT, Int.reduceLE]); (simp (disch := (apply Apart.mk; decide)) only [go_sem, Nat.reduceAdd, Nat.reduceLT, Nat.reduceMul, Nat.reduceLeDiff, Int.reduceToNat, Int.reduceLT, Int.reduceLE]); (first | omega | assumption | exact Ne.symm (by assumption)))
                case d_eF25 => rfl
                refine A_upto 2 ?_
                obtain ⟨r12, eF26, hr⟩ := hr.bind
                refine w_call' (out := ?o_eF26) (hp := ?p_eF26) (by simp (disch := (apply Apart.mk; decide)) only [go_sem, Nat.reduceAdd, Nat.reduceLT, Nat.reduceMul, Nat.reduceLeDiff, Int.reduceToNat, Int.reduceLT, Int.reduceLE, Option.getD_some, cF22]) (by simp (disch := (apply Apart.mk; decide)) only [go_sem, Nat.reduceAdd, Nat.reduceLT, Nat.reduceMul, Nat.reduceLeDiff, Int.reduceToNat, Int.reduceLT, Int.reduceLE, Option.getD_some, cF22]; rfl) (by simp (disch := (apply Apart.mk; decide)) only [go_sem, Nat.reduceAdd, Nat.reduceLT, Nat.reduceMul, Nat.reduceLeDiff, Int.reduceToNat, Int.reduceLT, Int.reduceLE, Option.getD_some, cF22]; rfl) (by simp (disch := (apply Apart.mk; decide)) only [go_sem, Nat.reduceAdd, Nat.reduceLT, Nat.reduceMul, Nat.reduceLeDiff, Int.reduceToNat, Int.reduceLT, Int.reduceLE, Option.getD_some, cF22]; rfl) ?c_eF26 ?d_eF26 ?_
                case c_eF26 => (refine alphabet_Alphabet_Of_runs y3 y (h.n + 2) (h.n + 3) ?_ ?_ ?_ eF26; (simp (disch := (apply Apart.mk; decide)) only [go_sem, Nat.reduceAdd, Nat.reduceLT, Nat.reduceMul, Nat.reduceLeDiff, Int.reduceToNat, Int.reduceLT, Int.reduceLE]); (simp (disch := (apply Apart.mk; decide)) only [go_sem, Nat.reduceAdd, Nat.reduceLT, Nat.reduceMul, Nat.reduceLeDiff, Int.reduceToNat, Int.reduceLT, Int.reduceLE]); (first | omega | assumption | exact Ne.symm (by assumption)))
                case d_eF26 => rfl
                refine A_ops_end ?_
                obtain rfl : _ = v5 := hr
                exact w_k (A_cut hwf)
            refine A_condH hr (fun cF28 hr => ?_) (fun cF28 hr => ?_)
            · refine w_seq ?_
              refine A_region ?_
              refine w_n ?_
              refine w_ret ?_
              obtain rfl := hD _ hr
              exact (w_tr (A_endR (A_cut (os' := []) (sl := [(6, .cv (.val (.bool false)))]) hwf) ⟨rfl, on_nil hwf⟩))
            · refine w_skip ?_
              refine w_n ?_
              refine w_seq ?_
              refine w_seq ?_
              refine A_region ?_
              refine w_n ?_
              refine A_condH hr (fun cF29 hr => ?_) (fun cF29 hr => ?_)
              · refine w_seq ?_
                refine A_ops ?_
                refine A_upto 1 ?_
                obtain ⟨r13, eF30, hr⟩ := hr.bind
                refine A_call (out := ?o_eF30) (hp := ?p_eF30) ?c_eF30 ?d_eF30 ?_
                case c_eF30 => (refine alphabet_Alphabet_Count_runs y1 (h.n + 0) (h.n + 1) ?_ ?_ ?_ eF30; (simp (disch := (apply Apart.mk; decide)) only [go_sem, Nat.reduceAdd, Nat.reduceLT, Nat.reduceMul, Nat.reduceLeDiff, Int.reduceToNat, Int.reduceLT, Int.reduceLE]); (simp (disch := (apply Apart.mk; decide)) only [go_sem, Nat.reduceAdd, Nat.reduceLT, Nat.reduceMul, Nat.reduceLeDiff, Int.reduceToNat, Int.reduceLT, Int.reduceLE]); (first | omega | assumption | exact Ne.symm (by assumption)))
                case d_eF30 => rfl
                refine A_ops_end ?_
                refine w_n ?_
                refine w_ret ?_
                obtain rfl := hD _ hr
                exact (w_tr (A_endR (A_cut (os' := []) (sl := [(6, .cv (.val (.bool (r13 == (1 : Int)))))]) hwf) ⟨rfl, on_nil hwf⟩))
              · refine w_skip ?_
                refine w_n ?_
                refine w_seq ?_
                refine A_ops ?_
                obtain ⟨nF31, nF32, hr⟩ := hr.cutL
                refine A_upto 2 ?_
                obtain ⟨r14, eF33, hr⟩ := hr.bind
                try dsimp only at hr
                rcases xF46 : r14.1 with _ | y4
                · rw [xF46] at hr
                  dsimp only at hr
                  refine A_call (out := ?o_eF33a) (hp := ?p_eF33a) ?c_eF33a ?d_eF33a ?_
                  case c_eF33a => exact alphabet_New_runs_none (List.drop (Int.toNat (1 : Int)) r2) eF33 xF46
                  case d_eF33a => rfl
                  refine A_ops_end ?_
                  refine w_n ?_
                  obtain ⟨_, vF35, hr⟩ := hr.bind
                  refine w_joinR (sj := ⟨[(6, .cv (.val (.bool false)))], h.on []⟩) (A_ops ?_) ?_
                  · have hr := Holds.intro (D := fun z => z = ()) vF35 rfl
                    refine A_upto 3 ?_
                    rcases hr.ite with ⟨cF34, hr⟩ | ⟨cF34, hr⟩
                    · refine A_upto 1 ?_
                      exact hr.elim
                    · refine A_upto 1 ?_
                      refine A_off ?_
                      refine A_upto 1 ?_
                      refine A_off ?_
                      refine A_upto 5 ?_
                      refine A_off ?_
                      refine A_upto 2 ?_
                      refine A_off ?_
                      refine A_upto 4 ?_
                      refine A_off ?_
                      refine A_upto 2 ?_
                      refine A_off ?_
                      refine A_ops_end ?_
                      exact w_k (A_cut hwf)
                  refine w_ret ?_
                  obtain rfl := hD _ hr
                  exact (A_endR (A_cut (os' := []) (sl := [(6, .cv (.val (.bool false)))]) hwf) ⟨rfl, on_nil hwf⟩)
                · rw [xF46] at hr
                  dsimp only at hr
                  refine A_call (out := ?o_eF33b) (hp := ?p_eF33b) ?c_eF33b ?d_eF33b ?_
                  case c_eF33b => exact alphabet_New_runs_some (List.drop (Int.toNat (1 : Int)) r2) eF33 xF46
                  case d_eF33b => rfl
                  refine A_ops_end ?_
                  refine w_n ?_
                  obtain ⟨v6, vF45, hr⟩ := hr.bind
                  refine w_joinR (sj := ⟨[(6, .cv (.val (.bool v6)))], h.on []⟩) (A_ops ?_) ?_
                  · have hr := Holds.intro (D := fun z => z = v6) vF45 rfl
                    refine A_upto 3 ?_
                    rcases hr.ite with ⟨cF36, hr⟩ | ⟨cF36, hr⟩
                    · refine A_upto 1 ?_
                      obtain ⟨r15, eF37, hr⟩ := hr.bind
                      refine w_call' (out := ?o_eF37) (hp := ?p_eF37) (by simp (disch := (apply Apart.mk; decide)) only [go_sem, Nat.reduceAdd, Nat.reduceLT, Nat.reduceMul, Nat.reduceLeDiff, Int.reduceToNat, Int.reduceLT, Int.reduceLE, Option.getD_some, cF36]) (by simp (disch := (apply Apart.mk; decide)) only [go_sem, Nat.reduceAdd, Nat.reduceLT, Nat.reduceMul, Nat.reduceLeDiff, Int.reduceToNat, Int.reduceLT, Int.reduceLE, Option.getD_some, cF36]; rfl) (by simp (disch := (apply Apart.mk; decide)) only [go_sem, Nat.reduceAdd, Nat.reduceLT, Nat.reduceMul, Nat.reduceLeDiff, Int.reduceToNat, Int.reduceLT, Int.reduceLE, Option.getD_some, cF36]; rfl) (by simp (disch := (apply Apart.mk; decide)) only [go_sem, Nat.reduceAdd, Nat.reduceLT, Nat.reduceMul, Nat.reduceLeDiff, Int.reduceToNat, Int.reduceLT, Int.reduceLE, Option.getD_some, cF36]; rfl) ?c_eF37 ?d_eF37 ?_
                      case c_eF37 => (refine alphabet_Alphabet_Count_runs y4 (h.n + 2) (h.n + 3) ?_ ?_ ?_ eF37; (simp (disch := (apply Apart.mk; decide)) only [go_sem, Nat.reduceAdd, Nat.reduceLT, Nat.reduceMul, Nat.reduceLeDiff, Int.reduceToNat, Int.reduceLT, Int.reduceLE]); (simp (disch := (apply Apart.mk; decide)) only [go_sem, Nat.reduceAdd, Nat.reduceLT, Nat.reduceMul, Nat.reduceLeDiff, Int.reduceToNat, Int.reduceLT, Int.reduceLE]); (first | omega | assumption | exact Ne.symm (by assumption)))
                      case d_eF37 => rfl
                      refine A_upto 1 ?_
                      obtain ⟨r16, eF38, hr⟩ := hr.bind
                      refine w_call' (out := ?o_eF38) (hp := ?p_eF38) (by simp (disch := (apply Apart.mk; decide)) only [go_sem, Nat.reduceAdd, Nat.reduceLT, Nat.reduceMul, Nat.reduceLeDiff, Int.reduceToNat, Int.reduceLT, Int.reduceLE, Option.getD_some, cF36]) (by simp (disch := (apply Apart.mk; decide)) only [go_sem, Nat.reduceAdd, Nat.reduceLT, Nat.reduceMul, Nat.reduceLeDiff, Int.reduceToNat, Int.reduceLT, Int.reduceLE, Option.getD_some, cF36]; rfl) (by simp (disch := (apply Apart.mk; decide)) only [go_sem, Nat.reduceAdd, Nat.reduceLT, Nat.reduceMul, Nat.reduceLeDiff, Int.reduceToNat, Int.reduceLT, Int.reduceLE, Option.getD_some, cF36]; rfl) (by simp (disch := (apply Apart.mk; decide)) only [go_sem, Nat.reduceAdd, Nat.reduceLT, Nat.reduceMul, Nat.reduceLeDiff, Int.reduceToNat, Int.reduceLT, Int.reduceLE, Option.getD_some, cF36]; rfl) ?c_eF38 ?d_eF38 ?_
                      case c_eF38 => (refine alphabet_Alphabet_Count_runs y1 (h.n + 0) (h.n + 1) ?_ ?_ ?_ eF38; (simp (disch := (apply Apart.mk; decide)) only [go_sem, Nat.reduceAdd, Nat.reduceLT, Nat.reduceMul, Nat.reduceLeDiff, Int.reduceToNat, Int.reduceLT, Int.reduceLE]); (simp (disch := (apply Apart.mk; decide)) only [go_sem, Nat.reduceAdd, Nat.reduceLT, Nat.reduceMul, Nat.reduceLeDiff, Int.reduceToNat, Int.reduceLT, Int.reduceLE]); (first | omega | assumption | exact Ne.symm (by assumption)))
                      case d_eF38 => rfl
                      refine A_upto 3 ?_
                      rcases hr.ite with ⟨cF39, hr⟩ | ⟨cF39, hr⟩
                      · refine A_upto 2 ?_
                        obtain ⟨r17, eF40, hr⟩ := hr.bind
                        refine w_call' (out := ?o_eF40) (hp := ?p_eF40) (by simp (disch := (apply Apart.mk; decide)) only [go_sem, Nat.reduceAdd, Nat.reduceLT, Nat.reduceMul, Nat.reduceLeDiff, Int.reduceToNat, Int.reduceLT, Int.reduceLE, Option.getD_some, cF36, cF39]) (by simp (disch := (apply Apart.mk; decide)) only [go_sem, Nat.reduceAdd, Nat.reduceLT, Nat.reduceMul, Nat.reduceLeDiff, Int.reduceToNat, Int.reduceLT, Int.reduceLE, Option.getD_some, cF36, cF39]; rfl) (by simp (disch := (apply Apart.mk; decide)) only [go_sem, Nat.reduceAdd, Nat.reduceLT, Nat.reduceMul, Nat.reduceLeDiff, Int.reduceToNat, Int.reduceLT, Int.reduceLE, Option.getD_some, cF36, cF39]; rfl) (by simp (disch := (apply Apart.mk; decide)) only [go_sem, Nat.reduceAdd, Nat.reduceLT, Nat.reduceMul, Nat.reduceLeDiff, Int.reduceToNat, Int.reduceLT, Int.reduceLE, Option.getD_some, cF36, cF39]; rfl) ?c_eF40 ?d_eF40 ?_
                        case c_eF40 => (refine alphabet_Alphabet_Of_runs y1 x (h.n + 0) (h.n + 1) ?_ ?_ ?_ eF40; (simp (disch := (apply Apart.mk; decide)) only [go_sem, Nat.reduceAdd, Nat.reduceLT, Nat.reduceMul, Nat.reduceLeDiff, Int.reduceToNat, Int.reduceLT, Int.reduceLE]); (simp (disch := (apply Apart.mk; decide)) only [go_sem, Nat.reduceAdd, Nat.reduceLT, Nat.reduceMul, Nat.reduceLeDiff, Int.reduceToNat, Int.reduceLT, Int.reduceLE]); (first | omega | assumption | exact Ne.symm (by assumption)))
                        case d_eF40 => rfl
                        refine A_upto 2 ?_
                        obtain ⟨r18, eF41, hr⟩ := hr.bind
                        refine w_call' (out := ?o_eF41) (hp := ?p_eF41) (by simp (disch := (apply Apart.mk; decide)) only [go_sem, Nat.reduceAdd, Nat.reduceLT, Nat.reduceMul, Nat.reduceLeDiff, Int.reduceToNat, Int.reduceLT, Int.reduceLE, Option.getD_some, cF36, cF39]) (by simp (disch := (apply Apart.mk; decide)) only [go_sem, Nat.reduceAdd, Nat.reduceLT, Nat.reduceMul, Nat.reduceLeDiff, Int.reduceToNat, Int.reduceLT, Int.reduceLE, Option.getD_some, cF36, cF39]; rfl) (by simp (disch := (apply Apart.mk; decide)) only [go_sem, Nat.reduceAdd, Nat.reduceLT, Nat.reduceMul, Nat.reduceLeDiff, Int.reduceToNat, Int.reduceLT, Int.reduceLE, Option.getD_some, cF36, cF39]; rfl) (by simp (disch := (apply Apart.mk; decide)) only [go_sem, Nat.reduceAdd, Nat.reduceLT, Nat.reduceMul, Nat.reduceLeDiff, Int.reduceToNat, Int.reduceLT, Int.reduceLE, Option.getD_some, cF36, cF39]; rfl) ?c_eF41 ?d_eF41 ?_
                        case c_eF41 => (refine alphabet_Alphabet_Of_runs y1 y (h.n + 0) (h.n + 1) ?_ ?_ ?_ eF41; (simp (disch := (apply Apart.mk; decide)) only [go_sem, Nat.reduceAdd, Nat.reduceLT, Nat.reduceMul, Nat.reduceLeDiff, Int.reduceToNat, Int.reduceLT, Int.reduceLE]); (simp (disch := (apply Apart.mk; decide)) only [go_sem, Nat.reduceAdd, Nat.reduceLT, Nat.reduceMul, Nat.reduceLeDiff, Int.reduceToNat, Int.reduceLT, Int.reduceLE]); (first | omega | assumption | exact Ne.symm (by assumption)))
                        case d_eF41 => rfl
                        refine A_upto 2 ?_
                        rcases hr.ite with ⟨cF42, hr⟩ | ⟨cF42, hr⟩
                        · refine A_upto 2 ?_
                          refine A_off ?_
                          refine A_upto 2 ?_
                          refine A_off ?_
                          refine A_ops_end ?_
                          obtain rfl : _ = v6 := hr
                          exact w_k (A_cut hwf)
                        · refine A_upto 2 ?_
                          obtain ⟨r19, eF43, hr⟩ := hr.bind
                          refine w_call' (out := ?o_eF43) (hp := ?p_eF43) (by simp (disch := (apply Apart.mk; decide)) only [go_sem, Nat.reduceAdd, Nat.reduceLT, Nat.reduceMul, Nat.reduceLeDiff, Int.reduceToNat, Int.reduceLT, Int.reduceLE, Option.getD_some, cF36, cF39, cF42]) (by simp (disch := (apply Apart.mk; decide)) only [go_sem, Nat.reduceAdd, Nat.reduceLT, Nat.reduceMul, Nat.reduceLeDiff, Int.reduceToNat, Int.reduceLT, Int.reduceLE, Option.getD_some, cF36, cF39, cF42]; rfl) (by simp (disch := (apply Apart.mk; decide)) only [go_sem, Nat.reduceAdd, Nat.reduceLT, Nat.reduceMul, Nat.reduceLeDiff, Int.reduceToNat, Int.reduceLT, Int.reduceLE, Option.getD_some, cF36, cF39, cF42]; rfl) (by simp (disch := (apply Apart.mk; decide)) only [go_sem, Nat.reduceAdd, Nat.reduceLT, Nat.reduceMul, Nat.reduceLeDiff, Int.reduceToNat, Int.reduceLT, Int.reduceLE, Option.getD_some, cF36, cF39, cF42]; rfl) ?c_eF43 ?d_eF43 ?_
                          case c_eF43 => (refine alphabet_Alphabet_Of_runs y4 x (h.n + 2) (h.n + 3) ?_ ?_ ?_ eF43; (simp (disch := (apply Apart.mk; decide)) only [go_sem, Nat.reduceAdd, Nat.reduceLT, Nat.reduceMul, Nat.reduceLeDiff, Int.reduceToNat, Int.reduceLT, Int.reduceLE]); (simp (disch := (apply Apart.mk; decide)) only [go_sem, Nat.reduceAdd, Nat.reduceLT, Nat.reduceMul, Nat.reduceLeDiff, Int.reduceToNat, Int.reduceLT, Int.reduceLE]); (first | omega | assumption | exact Ne.symm (by assumption)))
                          case d_eF43 => rfl
                          refine A_upto 2 ?_
                          obtain ⟨r20, eF44, hr⟩ := hr.bind
                          refine w_call' (out := ?o_eF44) (hp := ?p_eF44) (by simp (disch := (apply Apart.mk; decide)) only [go_sem, Nat.reduceAdd, Nat.reduceLT, Nat.reduceMul, Nat.reduceLeDiff, Int.reduceToNat, Int.reduceLT, Int.reduceLE, Option.getD_some, cF36, cF39, cF42]) (by simp (disch := (apply Apart.mk; decide)) only [go_sem, Nat.reduceAdd, Nat.reduceLT, Nat.reduceMul, Nat.reduceLeDiff, Int.reduceToNat, Int.reduceLT, Int.reduceLE, Option.getD_some, cF36, cF39, cF42]; rfl) (by simp (disch := (apply Apart.mk; decide)) only [go_sem, Nat.reduceAdd, Nat.reduceLT, Nat.reduceMul, Nat.reduceLeDiff, Int.reduceToNat, Int.reduceLT, Int.reduceLE, Option.getD_some, cF36, cF39, cF42]; rfl) (by simp (disch := (apply Apart.mk; decide)) only [go_sem, Nat.reduceAdd, Nat.reduceLT, Nat.reduceMul, Nat.reduceLeDiff, Int.reduceToNat, Int.reduceLT, Int.reduceLE, Option.getD_some, cF36, cF39, cF42]; rfl) ?c_eF44 ?d_eF44 ?_
                          case c_eF44 => (refine alphabet_Alphabet_Of_runs y4 y (h.n + 2) (h.n + 3) ?_ ?_ ?_ eF44; (simp (disch := (apply Apart.mk; decide)) only [go_sem, Nat.reduceAdd, Nat.reduceLT, Nat.reduceMul, Nat.reduceLeDiff, Int.reduceToNat, Int.reduceLT, Int.reduceLE]); (simp (disch := (apply Apart.mk; decide)) only [go_sem, Nat.reduceAdd, Nat.reduceLT, Nat.reduceMul, Nat.reduceLeDiff, Int.reduceToNat, Int.reduceLT, Int.reduceLE]); (first | omega | assumption | exact Ne.symm (by assumption)))
                          case d_eF44 => rfl
                          refine A_ops_end ?_
                          obtain rfl : _ = v6 := hr
                          exact w_k (A_cut hwf)
                      · refine A_upto 2 ?_
                        refine A_off ?_
                        refine A_upto 2 ?_
                        refine A_off ?_
                        refine A_upto 4 ?_
                        refine A_off ?_
                        refine A_upto 2 ?_
                        refine A_off ?_
                        refine A_ops_end ?_
                        obtain rfl : _ = v6 := hr
                        exact w_k (A_cut hwf)
                    · refine A_upto 1 ?_
                      refine A_off ?_
                      refine A_upto 1 ?_
                      refine A_off ?_
                      refine A_upto 5 ?_
                      refine A_off ?_
                      refine A_upto 2 ?_
                      refine A_off ?_
                      refine A_upto 4 ?_
                      refine A_off ?_
                      refine A_upto 2 ?_
                      refine A_off ?_
                      refine A_ops_end ?_
                      obtain rfl : _ = v6 := hr
                      exact w_k (A_cut hwf)
                  refine w_ret ?_
                  obtain rfl := hD _ hr
                  exact (A_endR (A_cut (os' := []) (sl := [(6, .cv (.val (.bool v6)))]) hwf) ⟨rfl, on_nil hwf⟩)
    · refine w_block ?_
      refine w_Loop (fun xX : (List (List TRange) × Int) => ⟨[(1, .cv (.val (.int .i64 x))), (2, .cv (.val (.int .i64 y))), (9, .cv (.val (.sl (List.map (eL eRange) r2)))), (10, .cv (.row 31 (List.map (eL eRange) xX.1))), (11, .cv (.val (.int .i64 xX.2)))], h.on []⟩) hr (A_cut hwf) (fun W1 xX hr => ?_)
      obtain ⟨back1, i⟩ := xX
      dsimp only [scansionlaw09_AlphabetTurned.b1] at hr
      refine w_seq ?_
      refine w_seq ?_
      refine A_region ?_
      refine w_n ?_
      refine A_condH hr (fun cF49 hr => ?_) (fun cF49 hr => ?_)
      · refine w_skip ?_
        refine w_n ?_
        refine w_seq ?_
        refine w_block ?_
        obtain ⟨xs, nF50, eF51, gF52, hr⟩ := hr.idx
        obtain ⟨nF53, hr⟩ := hr.room
        refine A_region ?_
        refine (w_bn (w_n ?_))
        refine A_region ?_
        exact (w_k ⟨((back1 ++ ([xs])), (IntKind.i64.wrap (i - (1 : Int)))), hr, (A_cut hwf)⟩)
      · refine w_exit ?_
        exact (w_te (w_te (w_bx (w_k ⟨back1, (hr).map, (A_cut hwf)⟩))))
end Go.Val

/- part P1 -/
/- Plain lemmas: loops that are read off. -/
namespace Go.Val
set_option linter.unusedVariables false

theorem w64 {n : Int} (h1 : -9223372036854775808 ≤ n) (h2 : n ≤ 9223372036854775807) : IntKind.i64.wrap n = n := by rw [IntKind.wrap_i64]; omega
theorem w64s {i : Nat} (h : i < 9223372036854775807) : IntKind.i64.wrap ((i : Int) + 1) = ((i + 1 : Nat) : Int) := by rw [w64 (by omega) (by omega)]; omega
theorem idx_nat {α : Type} {xs : List α} {i : Nat} : idx xs (i : Int) = xs[i]? := by
  unfold idx; rw [if_neg (by omega)]; simp
theorem room_ok {sz n : Nat} (h : n * sz ≤ 140737488355328) : room sz n = some () := by
  unfold room roomOf; rw [if_pos h]
theorem snoc_ind {α : Type} {P : List α → Prop} (h0 : P []) (h1 : ∀ l x, P l → P (l ++ [x])) (l : List α) : P l := by
  have key : ∀ l : List α, P l.reverse := by
    intro l
    induction l with
    | nil => exact h0
    | cons x l ih => rw [List.reverse_cons]; exact h1 _ _ ih
  have := key l.reverse
  rwa [List.reverse_reverse] at this
/-- Rounds that go on, one by one. -/
theorem Loop_run {σ ρ : Type} {b : σ → Option (Step σ ρ)} (st : Nat → σ) {i n : Nat} (hin : i ≤ n) (h : ∀ j, i ≤ j → j < n → b (st j) = some (.next (st (j + 1)))) : Loop b (st i) = Loop b (st n) := by
  induction n with
  | zero => obtain rfl : i = 0 := by omega
            rfl
  | succ n ih =>
    by_cases e : i = n + 1
    · rw [e]
    · rw [ih (by omega) fun j h1 h2 => h j h1 (by omega)]
      exact Loop_next (h n (by omega) (by omega))
theorem Loop_int {ρ : Type} {b : Int → Option (Step Int ρ)} {i n : Nat} (hin : i ≤ n) (h : ∀ j : Nat, i ≤ j → j < n → b j = some (.next ((j + 1 : Nat) : Int))) : Loop b (i : Int) = Loop b (n : Int) := Loop_run (fun j : Nat => (j : Int)) hin h
/-- A loop's end. -/
theorem Loop_end {σ ρ : Type} {b : σ → Option (Step σ ρ)} {s : σ} {R : Option ρ} (h : b s = R.map Step.done) : Loop b s = R := by
  cases R with
  | some r => exact Loop_done h
  | none =>
    apply Option.ext_some
    · intro r hr
      obtain ⟨n, hn⟩ := Loop_get hr
      cases n with
      | zero => simp [rounds] at hn
      | succ n => simp [rounds, h] at hn
    · intro r hr; cases hr
open Classical in
/-- A loop that looks for what is bad. -/
theorem Loop_all {ρ : Type} {b : Int → Option (Step Int ρ)} (P : Nat → Prop) {n : Nat} {r R : ρ} (hg : ∀ j, j < n → P j → b (j : Int) = some (.next ((j + 1 : Nat) : Int))) (hb : ∀ j, j < n → ¬ P j → b (j : Int) = some (.done r)) (he : b (n : Int) = some (.done R)) :
    ∀ (d i : Nat), i + d = n → Loop b (i : Int) = if ∀ j, i ≤ j → j < n → P j then some R else some r := by
  intro d
  induction d with
  | zero =>
    intro i hi
    obtain rfl : i = n := by omega
    rw [if_pos (fun j h1 h2 => by omega)]
    exact Loop_done he
  | succ d ih =>
    intro i hi
    by_cases hp : P i
    · rw [Loop_next (hg i (by omega) hp), ih (i + 1) (by omega)]
      have : (∀ j, i + 1 ≤ j → j < n → P j) ↔ ∀ j, i ≤ j → j < n → P j := by
        constructor
        · intro h j h1 h2
          by_cases e : j = i
          · rw [e]; exact hp
          · exact h j (by omega) h2
        · intro h j h1 h2; exact h j (by omega) h2
      simp only [this]
    · rw [Loop_done (hb i (by omega) hp), if_neg (fun h => hp (h i (Nat.le_refl _) (by omega)))]
theorem Loop_all0 {ρ : Type} {b : Int → Option (Step Int ρ)} (P : Nat → Prop) (n : Nat) {r R : ρ} (hg : ∀ j, j < n → P j → b (j : Int) = some (.next ((j + 1 : Nat) : Int))) (hb : ∀ j, j < n → ¬ P j → b (j : Int) = some (.done r)) (he : b (n : Int) = some (.done R)) :
    ((∀ j, j < n → P j) → Loop b 0 = some R) ∧ ((¬ ∀ j, j < n → P j) → Loop b 0 = some r) := by
  have := Loop_all P hg hb he n 0 (by omega)
  exact ⟨fun h => by rw [if_pos (fun j _ hj => h j hj)] at this; exact this, fun h => by rw [if_neg (fun h' => h fun j hj => h' j (Nat.zero_le _) hj)] at this; exact this⟩
end Go.Val

/- part Q1j -/
/- Plain lemmas: ranges, and the one list of ranges that a set has. -/
namespace Go.Val
set_option linter.unusedVariables false
/-- A loop with an end: what is known at its head, what grows less, what is known of its end. -/
theorem Loop_spec {σ ρ : Type} {body : σ → Option (Step σ ρ)} {Q : ρ → Prop} (I : σ → Prop) (μ : σ → Nat)
    (h : ∀ s, I s → (∃ s', body s = some (.next s') ∧ I s' ∧ μ s' < μ s) ∨ (∃ r, body s = some (.done r) ∧ Q r)) : ∀ s, I s → ∃ r, Loop body s = some r ∧ Q r := by
  have key : ∀ (n : Nat) (s : σ), μ s = n → I s → ∃ r, Loop body s = some r ∧ Q r := by
    intro n
    induction n using Nat.strongRecOn with
    | _ n ih =>
      intro s hn hs
      rcases h s hs with ⟨s', h1, h2, h3⟩ | ⟨r, h1, h2⟩
      · rw [Loop_next h1]
        exact ih _ (by omega) s' rfl h2
      · exact ⟨r, Loop_done h1, h2⟩
  intro s hs
  exact key _ s rfl hs

/-- A number is in one of the ranges. -/
def In (a : List TRange) (r : Int) : Prop := ∃ x ∈ a, x.Low ≤ r ∧ r ≤ x.High
def Ok (x : TRange) : Prop := 0 ≤ x.Low ∧ x.Low ≤ x.High ∧ x.High ≤ 1114111
/-- Ranges that rise and don't touch. -/
def Norm (a : List TRange) : Prop := (∀ x ∈ a, Ok x) ∧ a.Pairwise (fun x y => x.High + 1 < y.Low)
theorem In_nil {r : Int} : ¬ In [] r := by rintro ⟨x, h, _⟩; cases h
theorem In_cons {x : TRange} {l : List TRange} {r : Int} : In (x :: l) r ↔ (x.Low ≤ r ∧ r ≤ x.High) ∨ In l r := by
  simp only [In, List.mem_cons]
  constructor
  · rintro ⟨y, rfl | h, hy⟩
    · exact .inl hy
    · exact .inr ⟨y, h, hy⟩
  · rintro (h | ⟨y, h, hy⟩)
    · exact ⟨x, .inl rfl, h⟩
    · exact ⟨y, .inr h, hy⟩
theorem In_append {l m : List TRange} {r : Int} : In (l ++ m) r ↔ In l r ∨ In m r := by
  simp only [In, List.mem_append]
  constructor
  · rintro ⟨y, h | h, hy⟩
    · exact .inl ⟨y, h, hy⟩
    · exact .inr ⟨y, h, hy⟩
  · rintro (⟨y, h, hy⟩ | ⟨y, h, hy⟩)
    · exact ⟨y, .inl h, hy⟩
    · exact ⟨y, .inr h, hy⟩
theorem In_one {x : TRange} {r : Int} : In [x] r ↔ x.Low ≤ r ∧ r ≤ x.High := by
  rw [In_cons]
  exact ⟨fun h => h.elim id fun h => absurd h In_nil, .inl⟩
theorem In_perm {l m : List TRange} (h : l.Perm m) {r : Int} : In l r ↔ In m r := by
  simp only [In, h.mem_iff]
theorem Norm_nil : Norm [] := ⟨fun x h => (by cases h), .nil⟩
theorem Norm_cons {x : TRange} {l : List TRange} : Norm (x :: l) ↔ Ok x ∧ (∀ y ∈ l, x.High + 1 < y.Low) ∧ Norm l := by
  simp only [Norm, List.mem_cons, forall_eq_or_imp, List.pairwise_cons]
  constructor
  · rintro ⟨⟨h1, h2⟩, h3, h4⟩; exact ⟨h1, h3, h2, h4⟩
  · rintro ⟨h1, h3, h2, h4⟩; exact ⟨⟨h1, h2⟩, h3, h4⟩
theorem Norm_snoc {x : TRange} {l : List TRange} : Norm (l ++ [x]) ↔ Norm l ∧ Ok x ∧ ∀ y ∈ l, y.High + 1 < x.Low := by
  simp only [Norm, List.mem_append, List.mem_singleton, List.pairwise_append]
  constructor
  · rintro ⟨h1, h2, h3, h4⟩
    exact ⟨⟨fun y hy => h1 y (.inl hy), h2⟩, h1 x (.inr rfl), fun y hy => h4 y hy x rfl⟩
  · rintro ⟨⟨h1, h2⟩, h3, h4⟩
    refine ⟨fun y hy => ?_, h2, List.pairwise_singleton _ _, fun y hy z hz => ?_⟩
    · rcases hy with hy | rfl
      · exact h1 y hy
      · exact h3
    · subst hz; exact h4 y hy
theorem Norm.bound {a : List TRange} (h : Norm a) {r : Int} (hr : In a r) : 0 ≤ r ∧ r ≤ 1114111 := by
  obtain ⟨x, hx, h1, h2⟩ := hr
  have := h.1 x hx
  unfold Ok at this
  omega
theorem In_low {a : List TRange} (h : Norm a) {x : TRange} (hx : x ∈ a) : In a x.Low := ⟨x, hx, Int.le_refl _, (h.1 x hx).2.1⟩
theorem In_high {a : List TRange} (h : Norm a) {x : TRange} (hx : x ∈ a) : In a x.High := ⟨x, hx, (h.1 x hx).2.1, Int.le_refl _⟩
/-- A set has one list of ranges. -/
theorem Norm.unique : ∀ {a b : List TRange}, Norm a → Norm b → (∀ r, In a r ↔ In b r) → a = b
  | [], [], _, _, _ => rfl
  | [], y :: m, _, hb, h => absurd ((h y.Low).2 (In_low hb (by simp))) In_nil
  | x :: l, [], ha, _, h => absurd ((h x.Low).1 (In_low ha (by simp))) In_nil
  | x :: l, y :: m, ha, hb, h => by
    have ha' := Norm_cons.1 ha
    have hb' := Norm_cons.1 hb
    have hxo := ha'.1
    have hyo := hb'.1
    unfold Ok at hxo hyo
    have low : ∀ {x : TRange} {l : List TRange}, Norm (x :: l) → ∀ {r : Int}, In (x :: l) r → x.Low ≤ r := fun {x l} hn {r} hr => by
      have hn' := Norm_cons.1 hn
      have ho := hn'.1
      unfold Ok at ho
      rcases In_cons.1 hr with h | ⟨z, hz, h1, h2⟩
      · exact h.1
      · have := hn'.2.1 z hz; omega
    have next : ∀ {x : TRange} {l : List TRange}, Norm (x :: l) → ¬ In (x :: l) (x.High + 1) := fun {x l} hn hr => by
      have hn' := Norm_cons.1 hn
      rcases In_cons.1 hr with h | ⟨z, hz, h1, h2⟩
      · omega
      · have := hn'.2.1 z hz; omega
    have e1 : x.Low = y.Low := by
      have h1 := low hb ((h x.Low).1 (In_low ha (by simp)))
      have h2 := low ha ((h y.Low).2 (In_low hb (by simp)))
      omega
    have e2 : x.High = y.High := by
      have h1 : ¬ x.High < y.High := fun hlt => next ha ((h _).2 (In_cons.2 (.inl ⟨by omega, by omega⟩)))
      have h2 : ¬ y.High < x.High := fun hlt => next hb ((h _).1 (In_cons.2 (.inl ⟨by omega, by omega⟩)))
      omega
    have e : x = y := by cases x; cases y; simp_all
    subst e
    rw [Norm.unique ha'.2.2 hb'.2.2 fun r => ?_]
    constructor
    · intro hr
      rcases In_cons.1 ((h r).1 (In_cons.2 (.inr hr))) with h1 | h1
      · obtain ⟨z, hz, k1, k2⟩ := hr
        have := ha'.2.1 z hz; omega
      · exact h1
    · intro hr
      rcases In_cons.1 ((h r).2 (In_cons.2 (.inr hr))) with h1 | h1
      · obtain ⟨z, hz, k1, k2⟩ := hr
        have := hb'.2.1 z hz; omega
      · exact h1
theorem mx_ge {a b : Int} : a ≤ mx a b ∧ b ≤ mx a b := by unfold mx; split <;> omega
theorem mx_le {a b c : Int} (h1 : a ≤ c) (h2 : b ≤ c) : mx a b ≤ c := by unfold mx; split <;> omega
theorem mx_or {a b : Int} : mx a b = a ∨ mx a b = b := by unfold mx; split <;> simp
theorem len_pred {n : Nat} (h : n < 9223372036854775807) : IntKind.i64.wrap (((n + 1 : Nat) : Int) - 1) = n := by rw [w64 (by omega) (by omega)]; omega
/-- A range is put behind ranges. -/
theorem put_spec {out : List TRange} {x : TRange} (hn : Norm out) (hx : Ok x) (hl : ∀ y ∈ out, y.Low ≤ x.Low) (hlen : (out.length + 1) * 16 ≤ 140737488355328) :
    ∃ out', ranges_put out x = some out' ∧ Norm out' ∧ (∀ r, In out' r ↔ In out r ∨ (x.Low ≤ r ∧ r ≤ x.High)) ∧ out'.length ≤ out.length + 1 ∧ ∀ y ∈ out', y.Low ≤ x.Low := by
  have hxo := hx
  unfold Ok at hxo
  rcases List.eq_nil_or_concat out with rfl | ⟨init, y, rfl⟩
  · refine ⟨[x], ?_, Norm_snoc (l := []).2 ⟨Norm_nil, hx, fun y h => by cases h⟩, fun r => ?_, by simp, fun y hy => ?_⟩
    · unfold ranges_put
      rw [if_neg (by simp), Option.bind_some, if_neg (by simp), room_ok (by simp), Option.bind_some]; rfl
    · rw [In_one]; exact ⟨.inr, fun h => h.elim (fun h => absurd h In_nil) id⟩
    · simp at hy; subst hy; omega
  · rw [List.concat_eq_append] at *
    have hlen' : (init ++ [y]).length = init.length + 1 := by simp
    obtain ⟨n1, n2, n3⟩ := Norm_snoc.1 hn
    have hyo := n2
    unfold Ok at hyo
    have hyl := hl y (by simp)
    have hi : (init ++ [y])[init.length]? = some y := by simp
    have hbig : init.length < 9223372036854775807 := by rw [hlen'] at hlen; omega
    have hw : IntKind.i64.wrap (((init ++ [y]).length : Int) - 1) = (init.length : Int) := by rw [hlen']; exact len_pred hbig
    have hcond : (if (decide (((init ++ [y]).length : Int) > (0 : Int))) then
      (idx (init ++ [y]) (IntKind.i64.wrap (((init ++ [y]).length : Int) - (1 : Int)))).bind fun x1 =>
      some (decide (x.Low ≤ (IntKind.i64.wrap (x1.High + (1 : Int)))))
    else
      some false) = some (decide (x.Low ≤ y.High + 1)) := by
      rw [if_pos (by simp), hw, idx_nat, hi, Option.bind_some, w64 (by omega) (by omega)]
    by_cases hc : x.Low ≤ y.High + 1
    · refine ⟨init ++ [⟨y.Low, mx y.High x.High⟩], ?_, Norm_snoc.2 ⟨n1, ⟨(show 0 ≤ y.Low by omega), ?_, mx_le (by omega) (by omega)⟩, n3⟩, fun r => ?_, by simp, fun z hz => ?_⟩
      · unfold ranges_put
        rw [hcond, Option.bind_some, if_pos (by simpa using hc), hw, idx_nat, hi, Option.bind_some]
        try simp
      · have := (mx_ge (a := y.High) (b := x.High)).1
        show y.Low ≤ mx y.High x.High
        omega
      · rw [In_append, In_append, In_one, In_one]
        have h1 := mx_ge (a := y.High) (b := x.High)
        have h2 := mx_or (a := y.High) (b := x.High)
        show In init r ∨ (y.Low ≤ r ∧ r ≤ mx y.High x.High) ↔ (In init r ∨ (y.Low ≤ r ∧ r ≤ y.High)) ∨ (x.Low ≤ r ∧ r ≤ x.High)
        constructor
        · rintro (h | ⟨h3, h4⟩)
          · exact .inl (.inl h)
          · by_cases h5 : r ≤ y.High
            · exact .inl (.inr ⟨h3, h5⟩)
            · exact .inr ⟨by omega, by omega⟩
        · rintro ((h | ⟨h3, h4⟩) | ⟨h3, h4⟩)
          · exact .inl h
          · exact .inr ⟨h3, by omega⟩
          · exact .inr ⟨by omega, by omega⟩
      · rcases List.mem_append.1 hz with hz | hz
        · exact hl z (by simp [hz])
        · simp at hz; subst hz; exact hyl
    · refine ⟨init ++ [y] ++ [x], ?_, Norm_snoc.2 ⟨hn, hx, fun z hz => ?_⟩, fun r => ?_, by simp, fun z hz => ?_⟩
      · unfold ranges_put
        rw [hcond, Option.bind_some, if_neg (by simpa using hc), room_ok hlen, Option.bind_some]
      · rcases List.mem_append.1 hz with hz | hz
        · have := n3 z hz; omega
        · simp at hz; subst hz; omega
      · rw [In_append, In_one]
      · rcases List.mem_append.1 hz with hz | hz
        · exact hl z hz
        · simp at hz; subst hz; omega
end Go.Val

/- part Q2j -/
/- Plain lemmas: Make of ranges. -/
namespace Go.Val
set_option linter.unusedVariables false
theorem Contains_eq {l : List TRange} {f : TRange → Option Bool} {g : TRange → Bool} (hf : ∀ x ∈ l, f x = some (g x)) (hl : l.length < 9223372036854775807) : slices_ContainsFunc_api_Range_api_Range l f = some (l.any g) := by
  obtain ⟨r, h1, h2⟩ := Loop_spec (body := slices_IndexFunc_api_Range_api_Range.b1 l f) (Q := fun r => decide (r ≥ (0 : Int)) = l.any g) (fun v => ∃ k : Nat, v = k ∧ k ≤ l.length ∧ ∀ j, j < k → ∀ x, l[j]? = some x → g x = false) (fun v => l.length - v.toNat) (fun s ⟨k, hk, hkl, hall⟩ => by
    subst hk
    by_cases h : k < l.length
    · have hx : l[k]? = some l[k] := List.getElem?_eq_getElem h
      cases hg : g l[k] with
      | true =>
        right
        refine ⟨(k : Int), ?_, ?_⟩
        · rw [slices_IndexFunc_api_Range_api_Range.b1, if_pos (by simpa using h), idx_nat, hx, Option.bind_some, hf _ (List.getElem_mem h), Option.bind_some, hg, if_pos rfl]
        · rw [decide_eq_true (by omega)]; symm; rw [List.any_eq_true]; exact ⟨_, List.getElem_mem h, hg⟩
      | false =>
        left
        refine ⟨((k + 1 : Nat) : Int), ?_, ⟨k + 1, rfl, h, fun j hj x hx' => ?_⟩, by omega⟩
        · rw [slices_IndexFunc_api_Range_api_Range.b1, if_pos (by simpa using h), idx_nat, hx, Option.bind_some, hf _ (List.getElem_mem h), Option.bind_some, hg, if_neg (by simp), w64s (by omega)]
        · by_cases e : j = k
          · subst e; rw [hx] at hx'; cases hx'; exact hg
          · exact hall j (by omega) x hx'
    · right
      obtain rfl : k = l.length := by omega
      refine ⟨-1, ?_, ?_⟩
      · rw [slices_IndexFunc_api_Range_api_Range.b1, if_neg (by simp)]; rfl
      · rw [decide_eq_false (by omega)]; symm; rw [List.any_eq_false]
        intro x hx
        obtain ⟨j, hj, rfl⟩ := List.getElem_of_mem hx
        simp [hall j hj _ (List.getElem?_eq_getElem hj)]) (0 : Int) ⟨0, rfl, Nat.zero_le _, fun j hj => absurd hj (by omega)⟩
  unfold slices_ContainsFunc_api_Range_api_Range slices_IndexFunc_api_Range_api_Range
  rw [h1, Option.bind_some, h2]
theorem swoL : Go.Sort.SWO ltR where
  irrefl x := by simp [ltR]
  trans x y z h1 h2 := by simp [ltR] at *; omega
  ntrans x y z h1 h2 := by simp [ltR] at *; omega
theorem sortR_spec {l : List TRange} (h : l.length ≤ 140737488355328) : ∃ l', sortR l = some l' ∧ l'.Perm l ∧ l'.Pairwise (fun x y => x.Low ≤ y.Low) := by
  unfold sortR
  rw [if_pos (show l.length ≤ roomOf from h)]
  obtain ⟨⟨h1, _, h2⟩, h3⟩ := Go.Sort.pdq_sorts ltR swoL l.toArray 0 l.length (Go.Lib.bitLen l.length) true true (Nat.zero_le _) (by simp) (Or.inl rfl)
  generalize Go.Sort.pdq ltR l.toArray 0 l.length (Go.Lib.bitLen l.length) true true = d at h1 h2 h3 ⊢
  have hs : d.size = l.length := by simpa using h1
  refine ⟨_, rfl, ?_, ?_⟩
  · have e1 : d.extract 0 l.length = d := by rw [← hs]; simp
    have e2 : l.toArray.extract 0 l.length = l.toArray := by simp
    rw [e1, e2] at h2
    simpa using h2
  · rw [List.pairwise_iff_getElem]
    intro i j hi hj hij
    have := h3 i j (Nat.zero_le _) hij (by simpa [hs] using hj)
    rw [getElem!_pos d j (by simpa using hj), getElem!_pos d i (by simpa using hi)] at this
    simp only [ltR, decide_eq_false_iff_not] at this
    simp only [Array.getElem_toList]
    omega
theorem Clone_eq {l : List TRange} (h : l.length * 16 ≤ 140737488355328) : slices_Clone_api_Range_api_Range l = some l := by
  unfold slices_Clone_api_Range_api_Range
  rw [room_ok (by omega)]; rfl
instance (x : TRange) : Decidable (Ok x) := inferInstanceAs (Decidable (_ ∧ _ ∧ _))
theorem Make_1_eq (x : TRange) : ranges_Make_1 x = some (!decide (Ok x)) := by
  unfold ranges_Make_1 Ok
  congr 1
  by_cases h1 : x.Low < 0
  · have : ¬ (0 ≤ x.Low ∧ x.Low ≤ x.High ∧ x.High ≤ 1114111) := by omega
    simp [h1, this]
  · by_cases h2 : x.High > 1114111
    · have : ¬ (0 ≤ x.Low ∧ x.Low ≤ x.High ∧ x.High ≤ 1114111) := by omega
      simp [h2, this]
    · by_cases h3 : x.Low > x.High
      · have : ¬ (0 ≤ x.Low ∧ x.Low ≤ x.High ∧ x.High ≤ 1114111) := by omega
        simp [h3, this]
      · have : 0 ≤ x.Low ∧ x.Low ≤ x.High ∧ x.High ≤ 1114111 := by omega
        simp [h1, h2, h3, this]
theorem any_bad {l : List TRange} : (l.any fun x => !decide (Ok x)) = !decide (∀ x ∈ l, Ok x) := by
  rw [Bool.eq_iff_iff]
  simp
theorem take_snoc2 {l : List TRange} {s : Nat} {x : TRange} (h : l[s]? = some x) : l.take (s + 1) = l.take s ++ [x] := by
  rw [List.take_add_one, h]; rfl
theorem Make_loop {l1 : List TRange} (hok : ∀ x ∈ l1, Ok x) (hs : l1.Pairwise (fun x y => x.Low ≤ y.Low)) (hl : l1.length * 16 ≤ 140737488355328) :
    ∃ r, Loop (ranges_Make.b1 l1) ([], (0 : Int)) = some r ∧ r.2 = 0 ∧ Norm r.1 ∧ (∀ t, In r.1 t ↔ In l1 t) ∧ r.1.length ≤ l1.length := by
  refine Loop_spec (body := ranges_Make.b1 l1) (fun p => ∃ k : Nat, p.2 = k ∧ k ≤ l1.length ∧ Norm p.1 ∧ (∀ t, In p.1 t ↔ In (l1.take k) t) ∧ p.1.length ≤ k ∧ ∀ y ∈ p.1, ∀ z ∈ l1.drop k, y.Low ≤ z.Low) (fun p => l1.length - p.2.toNat) (fun p hp => ?_) _
    ⟨0, rfl, Nat.zero_le _, Norm_nil, fun t => by simp, Nat.le_refl _, fun y hy => by cases hy⟩
  obtain ⟨out, v⟩ := p
  obtain ⟨k, hk, hkl, hn, hin, hlen, hlow⟩ := hp
  simp only at hk hn hin hlen hlow
  subst hk
  by_cases h : k < l1.length
  · left
    have hx : l1[k]? = some l1[k] := List.getElem?_eq_getElem h
    have hd : l1.drop k = l1[k] :: l1.drop (k + 1) := List.drop_eq_getElem_cons h
    obtain ⟨out', g1, g2, g3, g4, g5⟩ := put_spec (x := l1[k]) hn (hok _ (List.getElem_mem h)) (fun y hy => hlow y hy _ (by rw [hd]; exact List.mem_cons_self)) (by omega)
    refine ⟨(out', ((k + 1 : Nat) : Int)), ?_, ⟨k + 1, rfl, h, g2, fun t => ?_, by simp only; omega, fun y hy z hz => ?_⟩, by simp only; omega⟩
    · simp only [ranges_Make.b1]
      rw [if_pos (by simpa using h), idx_nat, hx, Option.bind_some, g1, Option.bind_some, w64s (by omega)]
    · simp only
      rw [g3, hin, take_snoc2 hx, In_append, In_one]
    · have h1 := g5 y hy
      rw [List.pairwise_iff_getElem] at hs
      obtain ⟨j, hj, rfl⟩ := List.getElem_of_mem hz
      simp only [List.getElem_drop]
      have := hs k (k + 1 + j) h (by simp at hj; omega) (by omega)
      omega
  · right
    obtain rfl : k = l1.length := by omega
    refine ⟨(out, 0), ?_, rfl, hn, fun t => ?_, hlen⟩
    · simp only [ranges_Make.b1]
      rw [if_neg (by simp)]; rfl
    · simp only
      rw [hin, List.take_length]
/-- The set of ranges. -/
theorem Make_ok {l : List TRange} (hok : ∀ x ∈ l, Ok x) (hl : l.length * 16 ≤ 140737488355328) :
    ∃ out, ranges_Make l = some (out, 0) ∧ Norm out ∧ (∀ t, In out t ↔ In l t) ∧ out.length ≤ l.length := by
  obtain ⟨l1, h1, h2, h3⟩ := sortR_spec (l := l) (by omega)
  obtain ⟨r, g1, g2, g3, g4, g5⟩ := Make_loop (l1 := l1) (fun x hx => hok x (h2.mem_iff.1 hx)) h3 (by rw [h2.length_eq]; exact hl)
  refine ⟨r.1, ?_, g3, fun t => (g4 t).trans (In_perm h2), by rw [← h2.length_eq]; exact g5⟩
  unfold ranges_Make
  rw [Contains_eq (fun x _ => Make_1_eq x) (by omega), Option.bind_some, any_bad, decide_eq_true hok]
  rw [if_neg (by simp), Clone_eq hl, Option.bind_some, h1, Option.bind_some, g1, ← g2]
theorem Make_bad {l : List TRange} (hbad : ¬ ∀ x ∈ l, Ok x) (hl : l.length < 9223372036854775807) : ranges_Make l = some ([], 1) := by
  unfold ranges_Make
  rw [Contains_eq (fun x _ => Make_1_eq x) hl, Option.bind_some, any_bad, decide_eq_false hbad]
  rfl
theorem Same_eq {a b : List TRange} (hl : a.length < 9223372036854775807) : scansionref02_Same a b = some (decide (a = b)) := by
  unfold scansionref02_Same
  by_cases hlen : a.length = b.length
  · rw [if_neg (by simp [hlen])]
    have := Loop_all0 (b := scansionref02_Same.b1 a b) (fun j => a[j]? = b[j]?) a.length (r := false) (R := true) (fun j hj hp => ?_) (fun j hj hp => ?_) ?_
    · by_cases h : a = b
      · rw [this.1 (fun j _ => by rw [h]), decide_eq_true h]
      · rw [this.2 (fun hall => h (List.ext_getElem? fun j => ?_)), decide_eq_false h]
        by_cases hj : j < a.length
        · exact hall j hj
        · rw [List.getElem?_eq_none (by omega), List.getElem?_eq_none (by omega)]
    · have ha : a[j]? = some a[j] := List.getElem?_eq_getElem hj
      have hb : b[j]? = some a[j] := by rw [← hp]; exact ha
      rw [scansionref02_Same.b1, if_pos (by simpa using hj), idx_nat, ha, Option.bind_some, idx_nat, hb, Option.bind_some, if_neg (by simp), w64s (by omega)]
    · have ha : a[j]? = some a[j] := List.getElem?_eq_getElem hj
      have hb : b[j]? = some (b[j]'(by omega)) := List.getElem?_eq_getElem (by omega)
      rw [ha, hb] at hp
      rw [scansionref02_Same.b1, if_pos (by simpa using hj), idx_nat, ha, Option.bind_some, idx_nat, hb, Option.bind_some, if_pos]
      generalize a[j] = x at *
      generalize b[j]'(by omega) = y at *
      cases x; cases y
      simp only [Option.some.injEq, TRange.mk.injEq] at hp
      simp
      omega
    · rw [scansionref02_Same.b1, if_neg (by simp)]; rfl
  · rw [if_pos (by simp; omega)]
    rw [decide_eq_false (fun h => hlen (by rw [h]))]
end Go.Val

/- part Q3j -/
/- Plain lemmas: Has, Count and Nth of ranges. -/
namespace Go.Val
set_option linter.unusedVariables false
theorem Norm.short : ∀ {l : List TRange} {lo : Int}, Norm l → (∀ x ∈ l, lo ≤ x.Low) → (l.length : Int) ≤ max 0 (1114112 - lo)
  | [], lo, _, _ => by simp; omega
  | x :: l, lo, h, hlo => by
    obtain ⟨h1, h2, h3⟩ := Norm_cons.1 h
    unfold Ok at h1
    have := Norm.short h3 (lo := x.High + 2) (fun y hy => by have := h2 y hy; omega)
    have := hlo x (by simp)
    simp only [List.length_cons]
    omega
theorem Norm.len {l : List TRange} (h : Norm l) : l.length ≤ 1114112 := by
  have := h.short (lo := 0) (fun x hx => (h.1 x hx).1)
  omega
theorem Norm.sep : ∀ {a : List TRange}, Norm a → ∀ x ∈ a, ∀ z ∈ a, z = x ∨ z.High + 1 < x.Low ∨ x.High + 1 < z.Low
  | [], _, x, hx, _, _ => by cases hx
  | y :: l, h, x, hx, z, hz => by
    obtain ⟨h1, h2, h3⟩ := Norm_cons.1 h
    rcases List.mem_cons.1 hx with e1 | hx1
    · rcases List.mem_cons.1 hz with e2 | hz1
      · exact .inl (e2.trans e1.symm)
      · rw [e1]; exact .inr (.inr (h2 z hz1))
    · rcases List.mem_cons.1 hz with e2 | hz1
      · rw [e2]; exact .inr (.inl (h2 x hx1))
      · exact Norm.sep h3 x hx1 z hz1
theorem Norm.below {a : List TRange} (h : Norm a) {x : TRange} (hx : x ∈ a) : ¬ In a (x.Low - 1) := by
  rintro ⟨z, hz, h1, h2⟩
  have k1 := h.1 x hx
  have k2 := h.1 z hz
  unfold Ok at k1 k2
  rcases h.sep x hx z hz with e | e | e
  · subst e; omega
  · omega
  · omega
theorem Norm.take {a : List TRange} (h : Norm a) (k : Nat) : Norm (a.take k) := ⟨fun x hx => h.1 x (List.mem_of_mem_take hx), h.2.sublist (List.take_sublist _ _)⟩
theorem Norm.drop {a : List TRange} (h : Norm a) (k : Nat) : Norm (a.drop k) := ⟨fun x hx => h.1 x (List.mem_of_mem_drop hx), h.2.sublist (List.drop_sublist _ _)⟩
def hasB (a : List TRange) (r : Int) : Bool := a.any fun x => decide (x.Low ≤ r) && decide (r ≤ x.High)
theorem hasB_iff {a : List TRange} {r : Int} : hasB a r = true ↔ In a r := by
  simp [hasB, In]
theorem hasB_dec {a : List TRange} {r : Int} {p : Prop} [Decidable p] (h : In a r ↔ p) : hasB a r = decide p := by
  rw [Bool.eq_iff_iff, hasB_iff, h]; simp

/-! ### Has -/
theorem half_eq {i j : Nat} (h : i + j < 9223372036854775807) : shR .u64 (IntKind.u64.wrap (IntKind.i64.wrap ((i : Int) + j))) 1 = (((i + j) / 2 : Nat) : Int) := by
  rw [w64 (by omega) (by omega)]
  have : IntKind.u64.wrap ((i : Int) + j) = (i : Int) + j := by simp [IntKind.wrap, IntKind.bits, IntKind.signed]; omega
  rw [this]
  unfold shR
  rw [show (2 : Int) ^ (min (1 : Int).toNat IntKind.u64.bits) = 2 from rfl, Int.fdiv_eq_ediv_of_nonneg _ (by omega)]
  omega
def cmpR (x : TRange) (r : Int) : Int := if x.High < r then -1 else if x.Low > r then 1 else 0
theorem Has_1_eq (x : TRange) (r : Int) : ranges_Has_1 x r = some (cmpR x r) := by
  unfold ranges_Has_1 cmpR
  by_cases h1 : x.High < r
  · simp [h1]
  · by_cases h2 : x.Low > r
    · simp [h1, h2]
    · simp [h1, h2]
theorem Has_eq {a : List TRange} (hn : Norm a) (r : Int) : ranges_Has a r = some (hasB a r) := by
  have hl := hn.len
  have hp := List.pairwise_iff_getElem.1 hn.2
  have ho := hn.1
  obtain ⟨q, h1, h2⟩ := Loop_spec (body := slices_BinarySearchFunc_api_Range_api_Range_int.b1 a r ranges_Has_1) (Q := fun q => q.2 = hasB a r)
    (fun p => ∃ i j : Nat, p.1 = i ∧ p.2 = j ∧ i ≤ j ∧ j ≤ a.length ∧ (∀ k, k < i → ∀ x, a[k]? = some x → x.High < r) ∧ (∀ k, j ≤ k → ∀ x, a[k]? = some x → r ≤ x.High)) (fun p => (p.2 - p.1).toNat) (fun p hp' => by
    obtain ⟨i0, j0⟩ := p
    obtain ⟨i, j, e1, e2, hij, hj, hlo, hhi⟩ := hp'
    simp only at e1 e2
    subst e1; subst e2
    simp only [slices_BinarySearchFunc_api_Range_api_Range_int.b1]
    by_cases h : i < j
    · left
      have hm : (i + j) / 2 < a.length := by omega
      have hx : a[(i + j) / 2]? = some a[(i + j) / 2] := List.getElem?_eq_getElem hm
      rw [if_pos (by simpa using h), half_eq (by omega), Option.bind_some, w64 (by omega) (by omega), idx_nat, hx, Option.bind_some, Has_1_eq, Option.bind_some]
      by_cases hc : a[(i + j) / 2].High < r
      · refine ⟨((((i + j) / 2 + 1 : Nat) : Int), (j : Int)), ?_, ⟨(i + j) / 2 + 1, j, rfl, rfl, by omega, hj, fun k hk x hx' => ?_, hhi⟩, by simp only; omega⟩
        · rw [if_pos (by simp [cmpR, hc]), w64s (by omega)]; rfl
        · by_cases e : k = (i + j) / 2
          · subst e; rw [hx] at hx'; cases hx'; exact hc
          · have hkl : k < a.length := (List.getElem?_eq_some_iff.1 hx').1
            have hkx : a[k] = x := (List.getElem?_eq_some_iff.1 hx').2
            have := hp k ((i + j) / 2) hkl hm (by omega)
            have o1 := ho _ (List.getElem_mem hm)
            unfold Ok at o1
            rw [hkx] at this
            omega
      · refine ⟨((i : Int), (((i + j) / 2 : Nat) : Int)), ?_, ⟨i, (i + j) / 2, rfl, rfl, by omega, by omega, hlo, fun k hk x hx' => ?_⟩, by simp only; omega⟩
        · rw [if_neg (by simp only [cmpR, hc, if_false]; split <;> simp)]; rfl
        · by_cases e : k = (i + j) / 2
          · subst e; rw [hx] at hx'; cases hx'; omega
          · have hkl : k < a.length := (List.getElem?_eq_some_iff.1 hx').1
            have hkx : a[k] = x := (List.getElem?_eq_some_iff.1 hx').2
            have := hp ((i + j) / 2) k hm hkl (by omega)
            have o1 := ho _ (List.getElem_mem hkl)
            unfold Ok at o1
            rw [hkx] at this o1
            omega
    · right
      obtain rfl : i = j := by omega
      rw [if_neg (by simp)]
      unfold slices_BinarySearchFunc_api_Range_api_Range_int.k1
      by_cases hi : i < a.length
      · have hx : a[i]? = some a[i] := List.getElem?_eq_getElem hi
        rw [if_pos (by simpa using hi), idx_nat, hx, Option.bind_some, Has_1_eq, Option.bind_some, Option.bind_some]
        refine ⟨_, rfl, ?_⟩
        simp only
        have o1 := ho _ (List.getElem_mem hi)
        have hh := hhi i (Nat.le_refl _) _ hx
        unfold Ok at o1
        have hin : In a r ↔ a[i].Low ≤ r := by
          constructor
          · rintro ⟨x, hx', k1, k2⟩
            obtain ⟨k, hk, rfl⟩ := List.getElem_of_mem hx'
            by_cases e : k < i
            · have := hlo k e _ (List.getElem?_eq_getElem hk); omega
            · by_cases e2 : k = i
              · subst e2; exact k1
              · have := hp i k hi hk (by omega); omega
          · exact fun hlow => ⟨_, List.getElem_mem hi, hlow, hh⟩
        rw [hasB_dec hin, Bool.eq_iff_iff]
        simp only [cmpR, beq_iff_eq, decide_eq_true_eq]
        rw [if_neg (by omega)]
        split <;> simp <;> omega
      · rw [if_neg (by simpa using hi), Option.bind_some]
        refine ⟨_, rfl, ?_⟩
        simp only
        have hin : ¬ In a r := by
          rintro ⟨x, hx', k1, k2⟩
          obtain ⟨k, hk, rfl⟩ := List.getElem_of_mem hx'
          have := hlo k (by omega) _ (List.getElem?_eq_getElem hk); omega
        symm
        rw [← Bool.not_eq_true, hasB_iff]
        exact hin) ((0 : Int), (a.length : Int)) ⟨0, a.length, rfl, rfl, Nat.zero_le _, Nat.le_refl _, fun k hk => absurd hk (by omega), fun k hk x hx => by
      have := (List.getElem?_eq_some_iff.1 hx).1; omega⟩
  unfold ranges_Has slices_BinarySearchFunc_api_Range_api_Range_int
  rw [h1, Option.bind_some, h2]
/-- The document's Has. -/
theorem refHas_eq {a : List TRange} (hl : a.length < 9223372036854775807) (r : Int) : scansionref02_Has a r = some (hasB a r) := by
  have := Loop_all0 (b := scansionref02_Has.b1 a r) (fun j => ∀ x, a[j]? = some x → ¬ (x.Low ≤ r ∧ r ≤ x.High)) a.length (r := true) (R := false) (fun j hj hp => ?_) (fun j hj hp => ?_) ?_
  · unfold scansionref02_Has
    by_cases h : ∀ j, j < a.length → ∀ x, a[j]? = some x → ¬ (x.Low ≤ r ∧ r ≤ x.High)
    · rw [this.1 h]
      congr 1
      symm
      rw [← Bool.not_eq_true, hasB_iff]
      rintro ⟨x, hx, h1⟩
      obtain ⟨k, hk, rfl⟩ := List.getElem_of_mem hx
      exact h k hk _ (List.getElem?_eq_getElem hk) h1
    · rw [this.2 h]
      congr 1
      symm
      rw [hasB_iff]
      simp only [Classical.not_forall, Classical.not_not] at h
      obtain ⟨j, hj, x, hx, h1⟩ := h
      exact ⟨x, List.mem_of_getElem? hx, h1⟩
  · have hx : a[j]? = some a[j] := List.getElem?_eq_getElem hj
    have h1 := hp _ hx
    rw [scansionref02_Has.b1, if_pos (by simpa using hj), idx_nat, hx, Option.bind_some]
    by_cases h2 : r ≥ a[j].Low
    · rw [if_pos (by simpa using h2), Option.bind_some, if_neg (by simp; omega), w64s (by omega)]
    · rw [if_neg (by simpa using h2), Option.bind_some, if_neg (by simp), w64s (by omega)]
  · have hx : a[j]? = some a[j] := List.getElem?_eq_getElem hj
    have h1 : a[j].Low ≤ r ∧ r ≤ a[j].High := Classical.not_not.1 fun hn => hp fun x hx' => by rw [hx] at hx'; cases hx'; exact hn
    rw [scansionref02_Has.b1, if_pos (by simpa using hj), idx_nat, hx, Option.bind_some, if_pos (by simpa using h1.1), Option.bind_some, if_pos (by simpa using h1.2)]
  · rw [scansionref02_Has.b1, if_neg (by simp)]; rfl

/-! ### Count, Nth -/
def many (x : TRange) : Int := x.High - x.Low + 1
end Go.Val

/- part Q4j -/
/- Plain lemmas: the document's sets (edges, pick). -/
namespace Go.Val
set_option linter.unusedVariables false
theorem take_snocR {α : Type} {l : List α} {s : Nat} {x : α} (h : l[s]? = some x) : l.take (s + 1) = l.take s ++ [x] := by
  rw [List.take_add_one, h]; rfl
theorem rising_spec {l : List Int} {n : Int} (hp : l.Pairwise (· < ·)) (hl : (l.length + 1) * 8 ≤ 140737488355328) :
    ∃ l', scansionref02_rising l n = some l' ∧ l'.Pairwise (· < ·) ∧ (∀ x, x ∈ l' ↔ x ∈ l ∨ x = n) ∧ l'.length ≤ l.length + 1 := by
  refine Loop_spec (body := scansionref02_rising.b1 l n) (fun v : Int => ∃ k : Nat, v = (k : Int) ∧ k ≤ l.length ∧ ∀ j, j < k → ∀ x, l[j]? = some x → x < n) (fun v => l.length - v.toNat) (fun s hs => ?_) _ ⟨0, rfl, Nat.zero_le _, fun j hj => absurd hj (by omega)⟩
  obtain ⟨k, rfl, hk, hlo⟩ := hs
  simp only [scansionref02_rising.b1]
  have hpw := List.pairwise_iff_getElem.1 hp
  by_cases hc : ∃ x, l[k]? = some x ∧ x < n
  · left
    obtain ⟨x, hx, hxn⟩ := hc
    have hkl : k < l.length := (List.getElem?_eq_some_iff.1 hx).1
    refine ⟨((k + 1 : Nat) : Int), ?_, ⟨k + 1, rfl, hkl, fun j hj y hy => ?_⟩, by omega⟩
    · rw [if_pos (by simpa using hkl), idx_nat, hx, Option.bind_some, Option.bind_some, if_pos (by simpa using hxn), w64s (by omega)]
    · by_cases e : j = k
      · subst e; rw [hx] at hy; cases hy; exact hxn
      · exact hlo j (by omega) y hy
  · right
    have hge : ∀ x, l[k]? = some x → n ≤ x := fun x hx => by
      rcases Int.lt_or_le x n with h | h
      · exact absurd ⟨x, hx, h⟩ hc
      · exact h
    have hv : ((if (decide (((k : Nat) : Int) < (l.length : Int))) then
        (idx l ((k : Nat) : Int)).bind fun n2 =>
        some (decide (n2 < n))
      else
        some false)) = some false := by
      by_cases hkl : k < l.length
      · have hx : l[k]? = some l[k] := List.getElem?_eq_getElem hkl
        rw [if_pos (by simpa using hkl), idx_nat, hx, Option.bind_some]
        have := hge _ hx
        rw [decide_eq_false (by omega)]
      · rw [if_neg (by simpa using hkl)]
    rw [hv, Option.bind_some, if_neg (by simp)]
    unfold scansionref02_rising.k1
    by_cases he : l[k]? = some n
    · have hkl : k < l.length := (List.getElem?_eq_some_iff.1 he).1
      refine ⟨l, ?_, hp, fun x => ⟨.inl, fun h => h.elim id fun e => by subst e; exact List.mem_of_getElem? he⟩, by omega⟩
      rw [if_pos (by simpa using hkl), idx_nat, he, Option.bind_some, Option.bind_some, if_pos (by simp)]; rfl
    · have hv2 : ((if (decide (((k : Nat) : Int) < (l.length : Int))) then
          (idx l ((k : Nat) : Int)).bind fun n1 =>
          some (n1 == n)
        else
          some false)) = some false := by
        by_cases hkl : k < l.length
        · have hx : l[k]? = some l[k] := List.getElem?_eq_getElem hkl
          rw [if_pos (by simpa using hkl), idx_nat, hx, Option.bind_some]
          rw [hx] at he
          congr 1
          rw [beq_eq_false_iff_ne]
          exact fun e => he (by rw [e])
        · rw [if_neg (by simpa using hkl)]
      have hgt : ∀ j, k ≤ j → ∀ x, l[j]? = some x → n < x := fun j hj x hx => by
        have hjl : j < l.length := (List.getElem?_eq_some_iff.1 hx).1
        have hxe : l[j] = x := (List.getElem?_eq_some_iff.1 hx).2
        have hkl : k < l.length := by omega
        have h1 := hge _ (List.getElem?_eq_getElem hkl)
        have h2 : l[k] ≠ n := fun e => he (by rw [List.getElem?_eq_getElem hkl, e])
        by_cases e : j = k
        · subst e; rw [hxe] at h1 h2; omega
        · have := hpw k j hkl hjl (by omega)
          rw [hxe] at this; omega
      have hch : cutH l (k : Int) = some (l.take k) := by unfold cutH; rw [if_pos ⟨by omega, by omega⟩]; simp
      have hcl : cutL l (k : Int) = some (l.drop k) := by unfold cutL; rw [if_pos ⟨by omega, by omega⟩]; simp
      have ht : (l.take k).length = k := by simp; omega
      have hd : (l.drop k).length = l.length - k := by simp
      refine ⟨l.take k ++ [n] ++ l.drop k, ?_, ?_, fun x => ?_, by simp; omega⟩
      · rw [hv2, Option.bind_some, if_neg (by simp), hch, Option.bind_some, show (Int.toNat (k : Int)) = k by simp, room_ok (by omega), Option.bind_some, room_ok (by omega), Option.bind_some, hcl, Option.bind_some, room_ok (by omega), Option.bind_some]; rfl
      · rw [List.pairwise_append, List.pairwise_append]
        refine ⟨⟨hp.sublist (List.take_sublist _ _), List.pairwise_singleton _ _, fun x hx y hy => ?_⟩, hp.sublist (List.drop_sublist _ _), fun x hx y hy => ?_⟩
        · simp at hy; subst hy
          obtain ⟨j, hj, rfl⟩ := List.getElem_of_mem hx
          rw [List.getElem_take]
          exact hlo j (by omega) _ (List.getElem?_eq_getElem _)
        · obtain ⟨j, hj, rfl⟩ := List.getElem_of_mem hy
          rw [List.getElem_drop]
          have hyn := hgt (k + j) (by omega) _ (List.getElem?_eq_getElem (by omega))
          rcases List.mem_append.1 hx with hx | hx
          · obtain ⟨i, hi, rfl⟩ := List.getElem_of_mem hx
            rw [List.getElem_take]
            have := hlo i (by omega) _ (List.getElem?_eq_getElem (by omega))
            omega
          · simp at hx; subst hx; exact hyn
      · have hm : x ∈ l ↔ x ∈ l.take k ∨ x ∈ l.drop k := by
          conv => lhs; rw [← List.take_append_drop k l]
          exact List.mem_append
        simp only [List.mem_append, List.mem_singleton, hm]
        constructor
        · rintro ((h | h) | h)
          · exact .inl (.inl h)
          · exact .inr h
          · exact .inl (.inr h)
        · rintro ((h | h) | h)
          · exact .inl (.inl h)
          · exact .inr h
          · exact .inl (.inr h)
/-- Where something may begin. -/
def Edge (m : List TRange) (e : Int) : Prop := e = 0 ∨ ∃ x ∈ m, e = x.Low ∨ (x.High < 1114111 ∧ e = x.High + 1)
theorem Edge_snoc {m : List TRange} {x : TRange} {e : Int} : Edge (m ++ [x]) e ↔ (Edge m e ∨ e = x.Low) ∨ (x.High < 1114111 ∧ e = x.High + 1) := by
  unfold Edge
  constructor
  · rintro (h | ⟨y, hy, h⟩)
    · exact .inl (.inl (.inl h))
    · rcases List.mem_append.1 hy with hy | hy
      · exact .inl (.inl (.inr ⟨y, hy, h⟩))
      · simp at hy; subst hy
        rcases h with h | h
        · exact .inl (.inr h)
        · exact .inr h
  · rintro (((h | ⟨y, hy, h⟩) | h) | h)
    · exact .inl h
    · exact .inr ⟨y, by simp [hy], h⟩
    · exact .inr ⟨x, by simp, .inl h⟩
    · exact .inr ⟨x, by simp, .inr h⟩
theorem edges_spec {a b : List TRange} (ha : ∀ x ∈ a, Ok x) (hb : ∀ x ∈ b, Ok x) (hl : a.length + b.length ≤ 4000000) :
    ∃ E, scansionref02_edges a b = some E ∧ E.Pairwise (· < ·) ∧ (∀ e, e ∈ E ↔ Edge (a ++ b) e) ∧ E.length ≤ 2 * (a.length + b.length) + 1 := by
  have hlen : (a ++ b).length = a.length + b.length := by simp
  have hok : ∀ x ∈ a ++ b, Ok x := fun x hx => (List.mem_append.1 hx).elim (ha x) (hb x)
  unfold scansionref02_edges
  rw [room_ok (by omega), Option.bind_some, room_ok (by omega), Option.bind_some]
  refine Loop_spec (body := scansionref02_edges.b1 a b) (fun p : List Int × Int => ∃ k : Nat, p.2 = (k : Int) ∧ k ≤ (a ++ b).length ∧ p.1.Pairwise (· < ·) ∧ (∀ e, e ∈ p.1 ↔ Edge ((a ++ b).take k) e) ∧ p.1.length ≤ 2 * k + 1) (fun p => (a ++ b).length - p.2.toNat) (fun p hp => ?_) _
    ⟨0, rfl, Nat.zero_le _, List.pairwise_singleton _ _, fun e => by simp [Edge], by simp⟩
  obtain ⟨out, v⟩ := p
  obtain ⟨k, e, hk, hpw, hm, hol⟩ := hp
  simp only at e hpw hm hol
  subst e
  generalize hL : a ++ b = L at *
  simp only [scansionref02_edges.b1, hL]
  by_cases h : k < L.length
  · left
    have hx : L[k]? = some L[k] := List.getElem?_eq_getElem h
    have o := hok _ (List.getElem_mem h)
    unfold Ok at o
    obtain ⟨r, r1, r2, r3, r4⟩ := rising_spec (n := L[k].Low) hpw (by omega)
    rw [if_pos (by simpa using h), idx_nat, hx, Option.bind_some, r1, Option.bind_some]
    by_cases hh : L[k].High < 1114111
    · obtain ⟨q, q1, q2, q3, q4⟩ := rising_spec (n := L[k].High + 1) r2 (by omega)
      refine ⟨(q, ((k + 1 : Nat) : Int)), ?_, ⟨k + 1, rfl, h, q2, fun e => ?_, by simp only; omega⟩, by simp only; omega⟩
      · rw [if_pos (by simpa using hh), w64 (by omega) (by omega), q1, Option.bind_some]
        unfold scansionref02_edges.k2
        rw [w64s (by omega)]
      · simp only
        rw [q3, r3, hm, take_snocR hx, Edge_snoc]
        constructor
        · rintro (h | h)
          · exact .inl h
          · exact .inr ⟨hh, h⟩
        · rintro (h | h)
          · exact .inl h
          · exact .inr h.2
    · refine ⟨(r, ((k + 1 : Nat) : Int)), ?_, ⟨k + 1, rfl, h, r2, fun e => ?_, by simp only; omega⟩, by simp only; omega⟩
      · rw [if_neg (by simpa using hh)]
        unfold scansionref02_edges.k2
        rw [w64s (by omega)]
      · simp only
        rw [r3, hm, take_snocR hx, Edge_snoc]
        constructor
        · exact .inl
        · rintro (h | h)
          · exact h
          · exact absurd h.1 hh
  · right
    obtain rfl : k = L.length := by omega
    refine ⟨out, ?_, hpw, fun e => ?_, by omega⟩
    · rw [if_neg (by simp)]; rfl
    · rw [hm, List.take_length]
theorem with_spec {out : List TRange} {low high : Int} (hn : Norm out) (h0 : 0 ≤ low) (h1 : low ≤ high) (h2 : high ≤ 1114111) (hl : ∀ y ∈ out, y.High < low) :
    ∃ out', scansionref02_with out low high = some out' ∧ Norm out' ∧ ∀ r, In out' r ↔ In out r ∨ (low ≤ r ∧ r ≤ high) := by
  have hlen := hn.len
  rcases List.eq_nil_or_concat out with rfl | ⟨init, y, rfl⟩
  · refine ⟨[⟨low, high⟩], ?_, Norm_snoc (l := []).2 ⟨Norm_nil, ⟨h0, h1, h2⟩, fun y h => by cases h⟩, fun r => ?_⟩
    · unfold scansionref02_with
      rw [if_neg (by simp), Option.bind_some, if_neg (by simp), room_ok (by simp), Option.bind_some]; rfl
    · rw [In_one]; exact ⟨.inr, fun h => h.elim (fun h => absurd h In_nil) id⟩
  · rw [List.concat_eq_append] at *
    have hlen' : (init ++ [y]).length = init.length + 1 := by simp
    obtain ⟨n1, n2, n3⟩ := Norm_snoc.1 hn
    have hyo := n2
    unfold Ok at hyo
    have hyl := hl y (by simp)
    have hi : (init ++ [y])[init.length]? = some y := by simp
    have hw : IntKind.i64.wrap (((init ++ [y]).length : Int) - 1) = (init.length : Int) := by rw [hlen']; exact len_pred (by omega)
    have hcond : (if (decide (((init ++ [y]).length : Int) > (0 : Int))) then
      (idx (init ++ [y]) (IntKind.i64.wrap (((init ++ [y]).length : Int) - (1 : Int)))).bind fun x =>
      some (x.High == (IntKind.i64.wrap (low - (1 : Int))))
    else
      some false) = some (y.High == low - 1) := by
      rw [if_pos (by simp), hw, idx_nat, hi, Option.bind_some, w64 (by omega) (by omega)]
    by_cases hc : y.High = low - 1
    · refine ⟨init ++ [⟨y.Low, high⟩], ?_, Norm_snoc.2 ⟨n1, ⟨(show 0 ≤ y.Low by omega), (show y.Low ≤ high by omega), h2⟩, n3⟩, fun r => ?_⟩
      · unfold scansionref02_with
        rw [hcond, Option.bind_some, if_pos (by simpa using hc), hw, idx_nat, hi, Option.bind_some]
        simp
      · rw [In_append, In_append, In_one, In_one]
        show In init r ∨ (y.Low ≤ r ∧ r ≤ high) ↔ (In init r ∨ (y.Low ≤ r ∧ r ≤ y.High)) ∨ (low ≤ r ∧ r ≤ high)
        constructor
        · rintro (h | ⟨h3, h4⟩)
          · exact .inl (.inl h)
          · by_cases h5 : r ≤ y.High
            · exact .inl (.inr ⟨h3, h5⟩)
            · exact .inr ⟨by omega, by omega⟩
        · rintro ((h | ⟨h3, h4⟩) | ⟨h3, h4⟩)
          · exact .inl h
          · exact .inr ⟨h3, by omega⟩
          · exact .inr ⟨by omega, by omega⟩
    · refine ⟨init ++ [y] ++ [⟨low, high⟩], ?_, Norm_snoc.2 ⟨hn, ⟨h0, h1, h2⟩, fun z hz => ?_⟩, fun r => ?_⟩
      · unfold scansionref02_with
        rw [hcond, Option.bind_some, if_neg (by simpa using hc), room_ok (by omega), Option.bind_some]
      · show z.High + 1 < low
        rcases List.mem_append.1 hz with hz | hz
        · have := n3 z hz; omega
        · simp at hz; subst hz; omega
      · rw [In_append, In_one]
end Go.Val

/- part Q5j -/
/- Plain lemmas: the document's Or, And, Less, Not, Make. -/
namespace Go.Val
set_option linter.unusedVariables false
/-- What is taken. -/
def kindP (kind : Int) (one two : Bool) : Bool := if kind = 1 then one && two else if kind = 2 then one && !two else if kind = 3 then !one && !two else one || two
/-- Where a piece ends: the next edge; the end of all. -/
def bnd (E : List Int) (k : Nat) : Int := (E[k]?).getD 1114112
theorem bnd_at {E : List Int} {k : Nat} (h : k < E.length) : bnd E k = E[k] := by unfold bnd; rw [List.getElem?_eq_getElem h]; rfl
theorem bnd_end {E : List Int} : bnd E E.length = 1114112 := by unfold bnd; rw [List.getElem?_eq_none (Nat.le_refl _)]; rfl
theorem bnd_split {E : List Int} (hp : E.Pairwise (· < ·)) {k : Nat} (h : k < E.length) {e : Int} (he : e ∈ E) : e ≤ E[k] ∨ bnd E (k + 1) ≤ e := by
  obtain ⟨j, hj, rfl⟩ := List.getElem_of_mem he
  have hpw := List.pairwise_iff_getElem.1 hp
  by_cases h1 : j < k
  · exact .inl (by have := hpw j k hj h h1; omega)
  · by_cases h2 : j = k
    · subst h2; exact .inl (Int.le_refl _)
    · right
      rw [bnd_at (by omega)]
      by_cases h3 : j = k + 1
      · subst h3; exact Int.le_refl _
      · have := hpw (k + 1) j (by omega) hj (by omega); omega
theorem bnd_lt {E : List Int} (hp : E.Pairwise (· < ·)) (hE : ∀ e ∈ E, e ≤ 1114111) {k : Nat} (h : k < E.length) : E[k] < bnd E (k + 1) := by
  by_cases h1 : k + 1 < E.length
  · rw [bnd_at h1]; exact List.pairwise_iff_getElem.1 hp k (k + 1) h h1 (by omega)
  · rw [show k + 1 = E.length by omega, bnd_end]
    have := hE _ (List.getElem_mem h); omega
theorem Edge_bound {m : List TRange} (hm : ∀ x ∈ m, Ok x) {e : Int} (h : Edge m e) : 0 ≤ e ∧ e ≤ 1114111 := by
  rcases h with rfl | ⟨x, hx, h⟩
  · omega
  · have := hm x hx
    unfold Ok at this
    rcases h with rfl | ⟨h, rfl⟩ <;> omega
/-- Between two edges nothing turns. -/
theorem const_at {m L : List TRange} {E : List Int} (hm : ∀ x ∈ L, Ok x) (hp : E.Pairwise (· < ·)) (hE : ∀ e, e ∈ E ↔ Edge L e) (hs : ∀ x ∈ m, x ∈ L) {k : Nat} (h : k < E.length) {t : Int} (h1 : E[k] ≤ t) (h2 : t < bnd E (k + 1)) (h3 : t ≤ 1114111) :
    hasB m t = hasB m E[k] := by
  rw [Bool.eq_iff_iff, hasB_iff, hasB_iff]
  have key : ∀ x ∈ m, (x.Low ≤ t ∧ t ≤ x.High) ↔ (x.Low ≤ E[k] ∧ E[k] ≤ x.High) := fun x hx => by
    have o := hm x (hs x hx)
    unfold Ok at o
    have k1 := bnd_split hp h ((hE x.Low).2 (.inr ⟨x, hs x hx, .inl rfl⟩))
    by_cases hh : x.High < 1114111
    · have k2 := bnd_split hp h ((hE (x.High + 1)).2 (.inr ⟨x, hs x hx, .inr ⟨hh, rfl⟩⟩))
      omega
    · omega
  constructor
  · rintro ⟨x, hx, h⟩; exact ⟨x, hx, (key x hx).1 h⟩
  · rintro ⟨x, hx, h⟩; exact ⟨x, hx, (key x hx).2 h⟩
theorem pick_k3 {a b : List TRange} {kind : Int} {E : List Int} {out : List TRange} {k : Nat} {high : Int} (h : k < E.length) (ha : a.length ≤ 4000000) (hb : b.length ≤ 4000000) :
    scansionref02_pick.k3 a b kind E out (k : Int) high = scansionref02_pick.k4 out k high E[k] (kindP kind (hasB a E[k]) (hasB b E[k])) := by
  unfold scansionref02_pick.k3 kindP
  rw [idx_nat, List.getElem?_eq_getElem h, Option.bind_some, refHas_eq (by omega), Option.bind_some, refHas_eq (by omega), Option.bind_some]
  generalize hasB a E[k] = p
  generalize hasB b E[k] = q
  by_cases h1 : kind = 1
  · subst h1; cases p <;> rfl
  · rw [if_neg (by simpa using h1), if_neg h1]
    by_cases h2 : kind = 2
    · subst h2; cases p <;> rfl
    · rw [if_neg (by simpa using h2), if_neg h2]
      by_cases h3 : kind = 3
      · subst h3; cases p <;> rfl
      · rw [if_neg (by simpa using h3), if_neg h3]
theorem pick_spec {a b : List TRange} {kind : Int} (ha : ∀ x ∈ a, Ok x) (hb : ∀ x ∈ b, Ok x) (hl : a.length + b.length ≤ 4000000) :
    ∃ out, scansionref02_pick a b kind = some out ∧ Norm out ∧ ∀ t, In out t ↔ (0 ≤ t ∧ t ≤ 1114111 ∧ kindP kind (hasB a t) (hasB b t) = true) := by
  obtain ⟨E, e1, e2, e3, e4⟩ := edges_spec ha hb hl
  have hok : ∀ x ∈ a ++ b, Ok x := fun x hx => (List.mem_append.1 hx).elim (ha x) (hb x)
  have hbd : ∀ e ∈ E, 0 ≤ e ∧ e ≤ 1114111 := fun e he => Edge_bound hok ((e3 e).1 he)
  have h0 : 0 < E.length := List.length_pos_of_mem ((e3 0).2 (.inl rfl))
  have hE0 : bnd E 0 = 0 := by
    rw [bnd_at h0]
    have k1 := hbd _ (List.getElem_mem h0)
    obtain ⟨j, hj, hje⟩ := List.getElem_of_mem ((e3 0).2 (.inl rfl))
    by_cases h : j = 0
    · subst h; exact hje
    · have := List.pairwise_iff_getElem.1 e2 0 j h0 hj (by omega); omega
  unfold scansionref02_pick
  rw [e1, Option.bind_some]
  refine Loop_spec (body := scansionref02_pick.b1 a b kind E) (fun p : List TRange × Int => ∃ k : Nat, p.2 = (k : Int) ∧ k ≤ E.length ∧ Norm p.1 ∧ ∀ t, In p.1 t ↔ (0 ≤ t ∧ t < bnd E k ∧ kindP kind (hasB a t) (hasB b t) = true)) (fun p => E.length - p.2.toNat) (fun p hp => ?_) _
    ⟨0, rfl, Nat.zero_le _, Norm_nil, fun t => ⟨fun h => absurd h In_nil, fun h => by rw [hE0] at h; omega⟩⟩
  obtain ⟨out, v⟩ := p
  obtain ⟨k, e, hk, hn, hin⟩ := hp
  simp only at e hn hin
  subst e
  simp only [scansionref02_pick.b1]
  by_cases h : k < E.length
  · left
    have hlt := bnd_lt e2 (fun e he => (hbd e he).2) h
    have hE := hbd _ (List.getElem_mem h)
    have hnext : bnd E (k + 1) ≤ 1114112 := by
      by_cases h1 : k + 1 < E.length
      · rw [bnd_at h1]; have := hbd _ (List.getElem_mem h1); omega
      · rw [show k + 1 = E.length by omega, bnd_end]; omega
    have hhigh : (if (decide ((IntKind.i64.wrap ((k : Int) + (1 : Int))) < (E.length : Int))) then
        (idx E (IntKind.i64.wrap ((k : Int) + (1 : Int)))).bind fun n1 =>
        scansionref02_pick.k3 a b kind E out (k : Int) (IntKind.i64.wrap (n1 - (1 : Int)))
      else
        scansionref02_pick.k3 a b kind E out (k : Int) (1114111 : Int)) = scansionref02_pick.k3 a b kind E out (k : Int) (bnd E (k + 1) - 1) := by
      rw [w64s (by omega)]
      by_cases h1 : k + 1 < E.length
      · have := hbd _ (List.getElem_mem h1)
        rw [if_pos (by simp; omega), idx_nat, List.getElem?_eq_getElem h1, Option.bind_some, bnd_at h1, w64 (by omega) (by omega)]
      · rw [if_neg (by simp; omega), show k + 1 = E.length by omega, bnd_end]; rfl
    rw [if_pos (by simpa using h), hhigh, pick_k3 h (by omega) (by omega)]
    unfold scansionref02_pick.k4 scansionref02_pick.k2
    have hconst : ∀ t, E[k] ≤ t → t < bnd E (k + 1) → kindP kind (hasB a t) (hasB b t) = kindP kind (hasB a E[k]) (hasB b E[k]) := fun t h1 h2 => by
      rw [const_at hok e2 e3 (fun x hx => by simp [hx]) h h1 h2 (by omega), const_at hok e2 e3 (fun x hx => by simp [hx]) h h1 h2 (by omega)]
    rw [bnd_at h] at hin
    cases hc : kindP kind (hasB a E[k]) (hasB b E[k]) with
    | true =>
      obtain ⟨out', q1, q2, q3⟩ := with_spec (low := E[k]) (high := bnd E (k + 1) - 1) hn hE.1 (by omega) (by omega) (fun y hy => ((hin y.High).1 (In_high hn hy)).2.1)
      refine ⟨(out', ((k + 1 : Nat) : Int)), ?_, ⟨k + 1, rfl, h, q2, fun t => ?_⟩, by simp only; omega⟩
      · rw [if_pos rfl, q1, Option.bind_some, w64s (by omega)]
      · simp only
        rw [q3, hin]
        constructor
        · rintro (⟨h1, h2, h3⟩ | ⟨h1, h2⟩)
          · exact ⟨h1, by omega, h3⟩
          · exact ⟨by omega, by omega, by rw [hconst t h1 (by omega)]; exact hc⟩
        · rintro ⟨h1, h2, h3⟩
          by_cases h4 : t < E[k]
          · exact .inl ⟨h1, h4, h3⟩
          · exact .inr ⟨by omega, by omega⟩
    | false =>
      refine ⟨(out, ((k + 1 : Nat) : Int)), ?_, ⟨k + 1, rfl, h, hn, fun t => ?_⟩, by simp only; omega⟩
      · rw [if_neg (by simp), w64s (by omega)]
      · simp only
        rw [hin]
        constructor
        · rintro ⟨h1, h2, h3⟩
          exact ⟨h1, by omega, h3⟩
        · rintro ⟨h1, h2, h3⟩
          by_cases h4 : t < E[k]
          · exact ⟨h1, h4, h3⟩
          · rw [hconst t (by omega) h2, hc] at h3; cases h3
  · right
    obtain rfl : k = E.length := by omega
    refine ⟨out, ?_, hn, fun t => ?_⟩
    · rw [if_neg (by simp)]; rfl
    · rw [hin, bnd_end]
      constructor
      · rintro ⟨h1, h2, h3⟩; exact ⟨h1, by omega, h3⟩
      · rintro ⟨h1, h2, h3⟩; exact ⟨h1, by omega, h3⟩
theorem refMake_bad_one {l : List TRange} {k : Nat} (h : k < l.length) (hb : ¬ Ok l[k]) : scansionref02_Make.b1 l (k : Int) = some (.done ([], 1)) := by
  rw [scansionref02_Make.b1, if_pos (by simpa using h), idx_nat, List.getElem?_eq_getElem h, Option.bind_some]
  unfold Ok at hb
  by_cases h1 : l[k].Low < 0
  · rw [if_pos (by simpa using h1), Option.bind_some]; rfl
  · by_cases h2 : l[k].High > 1114111
    · rw [if_neg (by simpa using h1), if_pos (by simpa using h2), Option.bind_some]; rfl
    · rw [if_neg (by simpa using h1), if_neg (by simpa using h2), Option.bind_some, if_pos (by simp; omega)]
theorem refMake_ok_one {l : List TRange} {k : Nat} (h : k < l.length) (hl : l.length ≤ 4000000) (hb : Ok l[k]) : scansionref02_Make.b1 l (k : Int) = some (.next ((k + 1 : Nat) : Int)) := by
  rw [scansionref02_Make.b1, if_pos (by simpa using h), idx_nat, List.getElem?_eq_getElem h, Option.bind_some]
  unfold Ok at hb
  rw [if_neg (by simp; omega), if_neg (by simp; omega), Option.bind_some, if_neg (by simp; omega), w64s (by omega)]
theorem refMake_ok {l : List TRange} (hok : ∀ x ∈ l, Ok x) (hl : l.length ≤ 4000000) : ∃ out, scansionref02_Make l = some (out, 0) ∧ Norm out ∧ ∀ t, In out t ↔ In l t := by
  obtain ⟨out, h1, h2, h3⟩ := pick_spec (a := l) (b := []) (kind := 0) hok (fun x h => by cases h) (by simpa using hl)
  refine ⟨out, ?_, h2, fun t => ?_⟩
  · unfold scansionref02_Make
    have := Loop_int (b := scansionref02_Make.b1 l) (i := 0) (n := l.length) (Nat.zero_le _) (fun j _ hj => refMake_ok_one hj hl (hok _ (List.getElem_mem hj)))
    rw [show ((0 : Nat) : Int) = 0 from rfl] at this
    rw [this]
    apply Loop_end
    rw [scansionref02_Make.b1, if_neg (by simp)]
    unfold scansionref02_Make.k1
    rw [h1]; rfl
  · rw [h3]
    have e : kindP 0 (hasB l t) (hasB [] t) = hasB l t := by simp [kindP, hasB]
    rw [e, hasB_iff]
    constructor
    · exact fun h => h.2.2
    · intro h
      obtain ⟨x, hx, k1, k2⟩ := h
      have := hok x hx
      unfold Ok at this
      exact ⟨by omega, by omega, x, hx, k1, k2⟩
theorem refMake_bad {l : List TRange} (hbad : ¬ ∀ x ∈ l, Ok x) (hl : l.length ≤ 4000000) : scansionref02_Make l = some ([], 1) := by
  unfold scansionref02_Make
  refine Loop_rule (R := some ([], 1)) (fun v : Int => ∃ k : Nat, v = (k : Int) ∧ k ≤ l.length ∧ ∀ j (hj : j < l.length), j < k → Ok l[j]) (fun v => l.length - v.toNat) (fun v hv => ?_) _ ⟨0, rfl, Nat.zero_le _, fun j _ hj => absurd hj (by omega)⟩
  obtain ⟨k, rfl, hk, hall⟩ := hv
  by_cases h : k < l.length
  · by_cases ho : Ok l[k]
    · left
      refine ⟨_, refMake_ok_one h hl ho, ⟨k + 1, rfl, h, fun j hj hjk => ?_⟩, by omega⟩
      by_cases e : j = k
      · subst e; exact ho
      · exact hall j hj (by omega)
    · right
      exact ⟨_, rfl, refMake_bad_one h ho⟩
  · exact absurd (fun x hx => by
      obtain ⟨j, hj, rfl⟩ := List.getElem_of_mem hx
      exact hall j hj (by omega)) hbad
end Go.Val

/- part R1 -/
/- Plain lemmas: a number's mask. -/
namespace Go.Val
set_option linter.unusedVariables false
set_option linter.unusedSimpArgs false
/-- The mask of a number by the first sets. -/
def maskP (S : List (List TRange)) (r : Int) : Nat → Nat
  | 0 => 0
  | k + 1 => maskP S r k + if hasB (S.getD k []) r then 2 ^ k else 0
theorem maskP_lt (S : List (List TRange)) (r : Int) : ∀ k, maskP S r k < 2 ^ k
  | 0 => by simp [maskP]
  | k + 1 => by
    have := maskP_lt S r k
    simp only [maskP, Nat.pow_succ]
    split <;> omega
theorem maskP_bit (S : List (List TRange)) (r : Int) : ∀ (k i : Nat), i < k → (maskP S r k).testBit i = hasB (S.getD i []) r
  | 0, i, h => by omega
  | k + 1, i, h => by
    have hlt := maskP_lt S r k
    simp only [maskP]
    by_cases hik : i = k
    · subst hik
      cases hb : hasB (S.getD i []) r with
      | true =>
        simp only [if_true]
        rw [Nat.add_comm, Nat.testBit_two_pow_add_eq, Nat.testBit_lt_two_pow hlt]; rfl
      | false => simp only [Bool.false_eq_true, if_false, Nat.add_zero]; exact Nat.testBit_lt_two_pow hlt
    · have ih := maskP_bit S r k i (by omega)
      cases hb : hasB (S.getD k []) r with
      | true =>
        simp only [if_true]
        rw [Nat.add_comm, Nat.testBit_two_pow_add_gt (by omega)]; exact ih
      | false => simpa using ih
theorem or_bit {m k : Nat} (h : m < 2 ^ k) (hk : k < 64) : bOr .u64 (m : Int) (shL .u64 (1 : Int) (k : Int)) = ((m + 2 ^ k : Nat) : Int) := by
  have hp : 2 ^ k ≤ 2 ^ 63 := Nat.pow_le_pow_right (by omega) (by omega)
  have hw : ∀ n : Nat, n < 18446744073709551616 → IntKind.u64.wrap (n : Int) = (n : Int) := fun n hn => by simp [IntKind.wrap, IntKind.signed, IntKind.bits]; omega
  have hmin : min k 64 = k := by omega
  have hs : shL .u64 (1 : Int) (k : Int) = ((2 ^ k : Nat) : Int) := by
    unfold shL
    simp only [Int.toNat_natCast, IntKind.bits, hmin, Int.one_mul]
    rw [show (2 : Int) ^ k = ((2 ^ k : Nat) : Int) by simp, hw _ (by omega)]
  rw [hs]
  show IntKind.u64.wrap (((BitVec.ofInt 64 ((m : Nat) : Int) ||| BitVec.ofInt 64 ((2 ^ k : Nat) : Int)).toNat : Nat) : Int) = _
  rw [BitVec.ofInt_natCast, BitVec.ofInt_natCast, BitVec.toNat_or, BitVec.toNat_ofNat, BitVec.toNat_ofNat, Nat.mod_eq_of_lt (by omega), Nat.mod_eq_of_lt (by omega)]
  have h2 := Nat.two_pow_add_eq_or_of_lt h 1
  rw [Nat.mul_one] at h2
  rw [Nat.or_comm, ← h2, hw _ (by omega), Nat.add_comm]
end Go.Val

/- part R2 -/
/- Plain lemmas: the masks of the program and of the reference. -/
namespace Go.Val
set_option linter.unusedVariables false
set_option linter.unusedSimpArgs false
theorem nat_ok {n : Int} (h : 0 ≤ n) : nat n = some n := by unfold nat; rw [if_pos h]
theorem mask_loop {S : List (List TRange)} {r : Int} (hn : ∀ s ∈ S, Norm s) (hl : S.length ≤ 60) : ∀ (d k : Nat), k + d = S.length → Loop (alphabet_mask.b1 S r) (((maskP S r k : Nat) : Int), (k : Int)) = some ((maskP S r S.length : Nat) : Int)
  | 0, k, h => by
    obtain rfl : k = S.length := by omega
    refine Loop_done ?_
    simp only [alphabet_mask.b1]
    rw [if_neg (by simp)]; rfl
  | d + 1, k, h => by
    have hk : k < S.length := by omega
    have ih := mask_loop (r := r) hn hl d (k + 1) (by omega)
    rw [← ih]
    refine Loop_next ?_
    simp only [alphabet_mask.b1]
    rw [if_pos (by simpa using hk), idx_nat, List.getElem?_eq_getElem hk, Option.bind_some, Has_eq (hn _ (List.getElem_mem hk)), Option.bind_some]
    have hg : S.getD k [] = S[k] := by simp [List.getD_eq_getElem?_getD, List.getElem?_eq_getElem hk]
    have hm : maskP S r (k + 1) = maskP S r k + if hasB S[k] r then 2 ^ k else 0 := by simp only [maskP, hg]
    rw [hm]
    cases hb : hasB S[k] r with
    | true =>
      simp only [if_true]
      rw [nat_ok (by omega), Option.bind_some, or_bit (maskP_lt S r k) (by omega)]
      unfold alphabet_mask.k2
      rw [w64s (by omega)]
    | false =>
      simp only [Bool.false_eq_true, if_false, Nat.add_zero]
      unfold alphabet_mask.k2
      rw [w64s (by omega)]
theorem mask_eq {S : List (List TRange)} (hn : ∀ s ∈ S, Norm s) (hl : S.length ≤ 60) (r : Int) : alphabet_mask S r = some ((maskP S r S.length : Nat) : Int) := mask_loop hn hl S.length 0 (by omega)
end Go.Val

/- part R3 -/
/- Plain lemmas: a block's values. -/
namespace Go.Val
set_option linter.unusedVariables false
set_option linter.unusedSimpArgs false
/-- The value of a number: of two the later one; else 0. -/
def valN (l : List TProp) (r : Int) : UInt8 := l.foldl (fun v x => if x.Low ≤ r ∧ r ≤ x.High then x.Value else v) 0
theorem valN_snoc (l : List TProp) (x : TProp) (r : Int) : valN (l ++ [x]) r = if x.Low ≤ r ∧ r ≤ x.High then x.Value else valN l r := by
  unfold valN; rw [List.foldl_append]; rfl
/-- A block's values, as an array. -/
def blockOf (l : List TProp) (k : Nat) : Vector UInt8 256 := Vector.ofFn fun j => valN l (((k * 256 + j.1 : Nat)) : Int)
theorem blockOf_get (l : List TProp) (k j : Nat) (h : j < 256) : (blockOf l k).toList[j]? = some (valN l ((k * 256 + j : Nat) : Int)) := by
  unfold blockOf
  rw [List.getElem?_eq_getElem (by simpa using h)]
  simp
end Go.Val

/- part R4 -/
/- Plain lemmas: the program's block. -/
namespace Go.Val
set_option linter.unusedVariables false
set_option linter.unusedSimpArgs false
variable {l : List TProp} {x : TProp}
/-- A block on the way: the values of the first props, and of one more below a number. -/
def partOf (l : List TProp) (x : TProp) (k : Nat) (r : Int) : Vector UInt8 256 := Vector.ofFn fun j => if x.Low ≤ ((k * 256 + j.1 : Nat) : Int) ∧ ((k * 256 + j.1 : Nat) : Int) ≤ x.High ∧ ((k * 256 + j.1 : Nat) : Int) < r then x.Value else valN l ((k * 256 + j.1 : Nat) : Int)
theorem part_get (k : Nat) (r : Int) (j : Nat) (h : j < 256) : (partOf l x k r)[j] = if x.Low ≤ ((k * 256 + j : Nat) : Int) ∧ ((k * 256 + j : Nat) : Int) ≤ x.High ∧ ((k * 256 + j : Nat) : Int) < r then x.Value else valN l ((k * 256 + j : Nat) : Int) := by
  unfold partOf; simp
theorem part_start (k : Nat) (r : Int) (h : r ≤ max x.Low ((k * 256 : Nat) : Int)) : partOf l x k r = blockOf l k := by
  apply Vector.ext
  intro j hj
  rw [part_get k r j hj]
  unfold blockOf
  rw [if_neg (by omega)]; simp
theorem part_end (k : Nat) (r : Int) (h : min x.High ((k * 256 + 255 : Nat) : Int) < r) : partOf l x k r = blockOf (l ++ [x]) k := by
  apply Vector.ext
  intro j hj
  rw [part_get k r j hj]
  unfold blockOf
  simp only [Vector.getElem_ofFn, valN_snoc]
  by_cases hc : x.Low ≤ ((k * 256 + j : Nat) : Int) ∧ ((k * 256 + j : Nat) : Int) ≤ x.High
  · rw [if_pos hc, if_pos ⟨hc.1, hc.2, by omega⟩]
  · rw [if_neg hc, if_neg (fun h => hc ⟨h.1, h.2.1⟩)]
theorem part_set (k : Nat) (r : Int) (h0 : ((k * 256 : Nat) : Int) ≤ r) (h1 : r ≤ ((k * 256 + 255 : Nat) : Int)) (h2 : x.Low ≤ r) (h3 : r ≤ x.High) : vset (partOf l x k r) (r - ((k * 256 : Nat) : Int)) x.Value = partOf l x k (r + 1) := by
  apply Vector.ext
  intro j hj
  unfold vset
  rw [Vector.getElem_setIfInBounds hj, part_get k (r + 1) j hj, part_get k r j hj]
  by_cases hr : (r - ((k * 256 : Nat) : Int)).toNat = j
  · rw [if_pos hr, if_pos (by omega)]
  · rw [if_neg hr]
    have : (((k * 256 + j : Nat) : Int) < r + 1) ↔ (((k * 256 + j : Nat) : Int) < r) := by omega
    simp only [this]
end Go.Val

/- part R5 -/
/- Plain lemmas: the program's block, by its loops. -/
namespace Go.Val
set_option linter.unusedVariables false
set_option linter.unusedSimpArgs false
variable {l : List TProp} {x : TProp}
theorem mn_min (a b : Int) : mn a b = min a b := by unfold mn; omega
theorem b3_loop {k i : Nat} (hk : k < 4352) (hx : 0 ≤ x.Low ∧ x.Low ≤ x.High ∧ x.High ≤ 1114111) (hi : i < 4000000) : ∀ (d : Nat) (r : Int), max x.Low ((k * 256 : Nat) : Int) ≤ r → (min x.High ((k * 256 + 255 : Nat) : Int) + 1 - r).toNat = d →
    Loop (trie_Build.b3 (k : Int) (i : Int) x) (r, partOf l x k r) = some (.next (((i + 1 : Nat) : Int), blockOf (l ++ [x]) k)) := by
  have hlow : IntKind.i64.wrap ((k : Int) * 256) = ((k * 256 : Nat) : Int) := by rw [w64 (by omega) (by omega)]; omega
  have htop : IntKind.i64.wrap (IntKind.i64.wrap (((k * 256 : Nat) : Int) + 256) - 1) = ((k * 256 + 255 : Nat) : Int) := by rw [w64 (n := ((k * 256 : Nat) : Int) + 256) (by omega) (by omega), w64 (by omega) (by omega)]; omega
  have stop : ∀ r : Int, min x.High ((k * 256 + 255 : Nat) : Int) < r → Loop (trie_Build.b3 (k : Int) (i : Int) x) (r, partOf l x k r) = some (.next (((i + 1 : Nat) : Int), blockOf (l ++ [x]) k)) := fun r hr => by
    refine Loop_end ?_
    simp only [trie_Build.b3]
    rw [hlow, htop, mn_min, if_neg (by simp; omega), part_end k r hr]
    unfold trie_Build.k4
    rw [w64s (by omega)]
  intro d
  induction d with
  | zero => exact fun r hr hd => stop r (by omega)
  | succ d ih =>
    intro r hr hd
    rw [← ih (r + 1) (by omega) (by omega)]
    refine Loop_next ?_
    simp only [trie_Build.b3]
    have b1 : r ≤ x.High ∧ r ≤ ((k * 256 + 255 : Nat) : Int) := by omega
    have b2 : x.Low ≤ r ∧ ((k * 256 : Nat) : Int) ≤ r := by omega
    have hs := part_set (l := l) (x := x) k r b2.2 b1.2 b2.1 b1.1
    rw [hlow, htop, mn_min, if_pos (decide_eq_true (by omega)), w64 (n := r - ((k * 256 : Nat) : Int)) (by omega) (by omega), w64 (n := r + 1) (by omega) (by omega)]
    obtain ⟨j, hj⟩ : ∃ j : Nat, r - ((k * 256 : Nat) : Int) = (j : Int) := ⟨(r - ((k * 256 : Nat) : Int)).toNat, by omega⟩
    have hj2 : j < (partOf l x k r).toList.length := by rw [Vector.length_toList]; omega
    rw [hs, hj, idx_nat, List.getElem?_eq_getElem hj2]; rfl
end Go.Val

/- part R6 -/
/- Plain lemmas: the program's block, whole. -/
namespace Go.Val
set_option linter.unusedVariables false
set_option linter.unusedSimpArgs false
theorem take_snocP {α : Type} {l : List α} {s : Nat} (h : s < l.length) : l.take (s + 1) = l.take s ++ [l[s]] := by rw [List.take_add_one, List.getElem?_eq_getElem h]; rfl
theorem blockOf_nil (k : Nat) : blockOf [] k = Vector.replicate 256 0 := by
  apply Vector.ext
  intro j hj
  simp [blockOf, valN]
def OkP (x : TProp) : Prop := 0 ≤ x.Low ∧ x.Low ≤ x.High ∧ x.High ≤ 1114111
/-- All props, one behind the other. -/
theorem b2_loop {l : List TProp} {k : Nat} (hk : k < 4352) (ho : ∀ x ∈ l, OkP x) (hl : l.length ≤ 4096) {like : Vector UInt8 4352} {first : List (Vector UInt8 256)} {m : List (Vector UInt8 256 × Int)} : ∀ (d i : Nat), i + d = l.length →
    Loop (trie_Build.b2 l (k : Int) like first m) ((i : Int), blockOf (l.take i) k) = trie_Build.k3 (k : Int) like first m (blockOf l k)
  | 0, i, h => by
    obtain rfl : i = l.length := by omega
    refine Loop_end ?_
    simp only [trie_Build.b2]
    rw [if_neg (by simp), List.take_length]
  | d + 1, i, h => by
    have hi : i < l.length := by omega
    rw [← b2_loop hk ho hl d (i + 1) (by omega)]
    refine Loop_next ?_
    simp only [trie_Build.b2]
    have hlow : IntKind.i64.wrap ((k : Int) * 256) = ((k * 256 : Nat) : Int) := by rw [w64 (by omega) (by omega)]; omega
    rw [if_pos (by simpa using hi), idx_nat, List.getElem?_eq_getElem hi, Option.bind_some, hlow]
    have hm : mx l[i].Low ((k * 256 : Nat) : Int) = max l[i].Low ((k * 256 : Nat) : Int) := by unfold mx; omega
    rw [hm, ← part_start (l := l.take i) (x := l[i]) k (max l[i].Low ((k * 256 : Nat) : Int)) (by omega), take_snocP hi]
    exact b3_loop hk (ho _ (List.getElem_mem hi)) (by omega) _ _ (by omega) rfl
end Go.Val

/- part R7 -/
/- Plain lemmas: the table of blocks that are known. -/
namespace Go.Val
set_option linter.unusedVariables false
set_option linter.unusedSimpArgs false
variable {K : Type} [DecidableEq K]
/-- A table that tells each one's place. -/
def Knows (known : List (K × Int)) (l : List K) : Prop := known.length = l.length ∧ ∀ i : Nat, known[i]? = (l[i]?).map fun a => (a, (i : Int))
theorem aget_none {a : K} : ∀ {m : List (K × Int)}, (∀ p ∈ m, p.1 ≠ a) → aget a m = none
  | [], _ => rfl
  | (k, v) :: m, h => by
    simp only [aget]
    rw [if_neg (fun e => h (k, v) (by simp) e.symm)]
    exact aget_none fun p hp => h p (List.mem_cons_of_mem _ hp)
theorem aput_new {a : K} {v : Int} : ∀ {m : List (K × Int)}, (∀ p ∈ m, p.1 ≠ a) → aput a v m = m ++ [(a, v)]
  | [], _ => rfl
  | (k, w) :: m, h => by
    simp only [aput]
    rw [if_neg (fun e => h (k, w) (by simp) e.symm), aput_new fun p hp => h p (List.mem_cons_of_mem _ hp)]; rfl
theorem aget_at {a : K} : ∀ {m : List (K × Int)} {i : Nat} {v : Int}, m[i]? = some (a, v) → (∀ j < i, ∀ p, m[j]? = some p → p.1 ≠ a) → aget a m = some v
  | [], i, v, h, _ => by simp at h
  | (k, w) :: m, 0, v, h, _ => by
    simp at h
    obtain ⟨rfl, rfl⟩ := h
    simp [aget]
  | (k, w) :: m, i + 1, v, h, hb => by
    have h0 := hb 0 (by omega) (k, w) rfl
    simp only [aget]
    rw [if_neg (fun e => h0 e.symm)]
    exact aget_at (by simpa using h) fun j hj p hp => hb (j + 1) (by omega) p (by simpa using hp)
end Go.Val

/- part R8 -/
/- Plain lemmas: each one once, where it is first; a table of places. -/
namespace Go.Val
set_option linter.unusedVariables false
set_option linter.unusedSimpArgs false
set_option linter.unusedSectionVars false
variable {K : Type} [DecidableEq K]
/-- One more, if it is not there. -/
def addF (F : List K) (a : K) : List K := if a ∈ F then F else F ++ [a]
/-- Each one once, where it is first. -/
def firsts (l : List K) : List K := l.foldl addF []
theorem firsts_snoc {l : List K} {a : K} : firsts (l ++ [a]) = addF (firsts l) a := by
  unfold firsts; rw [List.foldl_append]; rfl
theorem addF_pre {F : List K} {a : K} : F <+: addF F a := by
  unfold addF; split
  · exact List.prefix_refl F
  · exact List.prefix_append F [a]
theorem mem_addF {F : List K} {a b : K} : b ∈ addF F a ↔ b ∈ F ∨ b = a := by
  unfold addF; split
  · exact ⟨Or.inl, fun h => h.elim id fun e => by rw [e]; assumption⟩
  · simp
theorem nodup_addF {F : List K} {a : K} (h : F.Nodup) : (addF F a).Nodup := by
  unfold addF; split
  · exact h
  · rename_i hn
    rw [List.nodup_append]
    exact ⟨h, by simp, fun x hx y hy => by simp at hy; rintro rfl; exact hn (hy ▸ hx)⟩
theorem mem_firsts {l : List K} {a : K} : a ∈ firsts l ↔ a ∈ l := by
  induction l using snoc_ind with
  | h0 => simp [firsts]
  | h1 l x ih => rw [firsts_snoc, mem_addF, ih]; simp
theorem nodup_firsts {l : List K} : (firsts l).Nodup := by
  induction l using snoc_ind with
  | h0 => simp [firsts]
  | h1 l x ih => rw [firsts_snoc]; exact nodup_addF ih
theorem firsts_pre {l m : List K} : firsts l <+: firsts (l ++ m) := by
  induction m using snoc_ind with
  | h0 => simp
  | h1 m x ih => rw [← List.append_assoc, firsts_snoc]; exact ih.trans addF_pre
/-- The place of the first that is this one. -/
def pos (F : List K) (a : K) : Nat := F.idxOf a
theorem pos_lt {F : List K} {a : K} (h : a ∈ F) : pos F a < F.length := List.idxOf_lt_length_iff.2 h
theorem pos_get {F : List K} {a : K} (h : a ∈ F) : F[pos F a]? = some a := by
  unfold pos
  rw [List.getElem?_eq_getElem (List.idxOf_lt_length_iff.2 h), List.getElem_idxOf]
theorem pos_first {F : List K} {a : K} {j : Nat} (hj : j < pos F a) : F[j]? ≠ some a := by
  intro hf
  have hb := (List.getElem?_eq_some_iff.1 hf)
  have hn := List.not_of_lt_findIdx (p := fun x => x == a) (xs := F) hj
  simp only [beq_eq_false_iff_ne, ne_eq, Bool.not_eq_true] at hn
  exact hn hb.2
theorem pos_pre {F G : List K} (h : F <+: G) {a : K} (ha : a ∈ F) : pos G a = pos F a := by
  obtain ⟨t, rfl⟩ := h
  unfold pos
  rw [List.idxOf_append, if_pos ha]
theorem pos_new {F : List K} {a : K} (h : a ∉ F) : pos (F ++ [a]) a = F.length := by
  unfold pos
  rw [List.idxOf_append, if_neg h]; simp
theorem pos_inj {F : List K} {a b : K} (ha : a ∈ F) (hb : b ∈ F) (h : pos F a = pos F b) : a = b := by
  have h1 := pos_get ha
  rw [h, pos_get hb] at h1
  exact (Option.some.inj h1).symm
theorem nodup_at {F : List K} (h : F.Nodup) {i j : Nat} (hi : i < F.length) (hj : j < F.length) (e : F[i] = F[j]) : i = j := by
  have hp := List.pairwise_iff_getElem.1 h
  rcases Nat.lt_trichotomy i j with hl | hl | hl
  · exact absurd e (hp i j hi hj hl)
  · exact hl
  · exact absurd e.symm (hp j i hj hi hl)
theorem pos_nodup {F : List K} (h : F.Nodup) {i : Nat} {a : K} (hi : F[i]? = some a) : pos F a = i := by
  have ha := List.mem_of_getElem? hi
  have h1 := pos_get ha
  have hlt := pos_lt ha
  obtain ⟨hi2, e⟩ := List.getElem?_eq_some_iff.1 hi
  obtain ⟨hi3, e3⟩ := List.getElem?_eq_some_iff.1 h1
  exact nodup_at h hi3 hi2 (e3.trans e.symm)
theorem Knows_nil : Knows ([] : List (K × Int)) [] := ⟨rfl, fun i => by simp⟩
theorem Knows.keys {m : List (K × Int)} {F : List K} (h : Knows m F) {p : K × Int} (hp : p ∈ m) : p.1 ∈ F := by
  obtain ⟨i, hi⟩ := List.mem_iff_getElem?.1 hp
  rw [h.2 i] at hi
  cases hf : F[i]? with
  | none => rw [hf] at hi; cases hi
  | some a =>
    rw [hf] at hi; cases hi
    exact List.mem_of_getElem? hf
theorem Knows.none {m : List (K × Int)} {F : List K} (h : Knows m F) {a : K} (ha : a ∉ F) : aget a m = .none := aget_none fun p hp e => ha (e ▸ h.keys hp)
theorem Knows.some {m : List (K × Int)} {F : List K} (h : Knows m F) {a : K} (ha : a ∈ F) : aget a m = .some (pos F a : Int) := by
  refine aget_at (i := pos F a) (by rw [h.2, pos_get ha]; rfl) fun j hj p hp e => ?_
  rw [h.2] at hp
  cases hf : F[j]? with
  | none => rw [hf] at hp; cases hp
  | some b =>
    rw [hf] at hp
    cases hp
    exact pos_first hj (by rw [hf, ← e])
theorem Knows.new {m : List (K × Int)} {F : List K} (h : Knows m F) {a : K} (ha : a ∉ F) : Knows (aput a (F.length : Int) m) (F ++ [a]) := by
  have hk : ∀ p ∈ m, p.1 ≠ a := fun p hp e => ha (by rw [← e]; exact h.keys hp)
  rw [aput_new hk]
  refine ⟨by simp [h.1], fun i => ?_⟩
  by_cases hi : i < F.length
  · rw [List.getElem?_append_left (by rw [h.1]; exact hi), List.getElem?_append_left hi, h.2]
  · rw [List.getElem?_append_right (by rw [h.1]; omega), List.getElem?_append_right (by omega), h.1]
    by_cases hi2 : i = F.length
    · subst hi2; simp
    · rw [List.getElem?_eq_none (by simp; omega), List.getElem?_eq_none (by simp; omega)]; rfl
end Go.Val

/- part R9 -/
/- Plain lemmas: trie.Build, whole. -/
namespace Go.Val
set_option linter.unusedVariables false
set_option linter.unusedSimpArgs false
theorem u8w_nat {n : Nat} (h : n < 256) : u8 (IntKind.u8.wrap (n : Int)) = UInt8.ofNat n := by
  have : IntKind.u8.wrap (n : Int) = (n : Int) := by simp [IntKind.wrap, IntKind.signed, IntKind.bits]; omega
  rw [this]; rfl
theorem add_in {like : Vector UInt8 4352} {F : List (Vector UInt8 256)} {m : List (Vector UInt8 256 × Int)} {k : Nat} {b : Vector UInt8 256} (hk : k < 4352) (hK : Knows m F) (hF : F.length ≤ 256) (hb : b ∈ F) :
    trie_Trie_add ⟨like, F⟩ (k : Int) b m = some (true, ⟨vset like (k : Int) (UInt8.ofNat (pos F b)), F⟩, m) := by
  have hlt := pos_lt hb
  unfold trie_Trie_add
  rw [hK.some hb]
  simp only [Option.isSome_some, Bool.not_true, Bool.false_eq_true, if_false, Option.getD_some]
  unfold trie_Trie_add.k1
  rw [idx_nat, List.getElem?_eq_getElem (by simpa using hk), Option.bind_some]
  have hw := u8w_nat (n := pos F b) (by omega)
  simp only [hw]
theorem add_new {like : Vector UInt8 4352} {F : List (Vector UInt8 256)} {m : List (Vector UInt8 256 × Int)} {k : Nat} {b : Vector UInt8 256} (hk : k < 4352) (hK : Knows m F) (hF : F.length < 256) (hb : b ∉ F) :
    trie_Trie_add ⟨like, F⟩ (k : Int) b m = some (true, ⟨vset like (k : Int) (UInt8.ofNat F.length), F ++ [b]⟩, aput b (F.length : Int) m) := by
  unfold trie_Trie_add
  rw [hK.none hb]
  simp only [Option.isSome_none, Bool.not_false, if_true]
  rw [if_neg (by simp; omega), room_ok (by omega), Option.bind_some]
  unfold trie_Trie_add.k1
  rw [idx_nat, List.getElem?_eq_getElem (by simpa using hk), Option.bind_some]
  have hw := u8w_nat (n := F.length) (by omega)
  simp only [hw]
theorem add_full {like : Vector UInt8 4352} {F : List (Vector UInt8 256)} {m : List (Vector UInt8 256 × Int)} {k : Nat} {b : Vector UInt8 256} (hK : Knows m F) (hF : 256 ≤ F.length) (hb : b ∉ F) :
    trie_Trie_add ⟨like, F⟩ (k : Int) b m = some (false, ⟨like, F⟩, m) := by
  unfold trie_Trie_add
  rw [hK.none hb]
  simp only [Option.isSome_none, Bool.not_false, if_true]
  rw [if_pos (by simp; omega)]
/-- The first blocks, and all. -/
def blks (l : List TProp) (k : Nat) : List (Vector UInt8 256) := (List.range k).map (blockOf l)
theorem blks_succ {l : List TProp} {k : Nat} : blks l (k + 1) = blks l k ++ [blockOf l k] := by
  unfold blks; rw [List.range_succ, List.map_append]; rfl
theorem blks_pre {l : List TProp} {k : Nat} : ∀ d, firsts (blks l k) <+: firsts (blks l (k + d))
  | 0 => List.prefix_refl _
  | d + 1 => (blks_pre d).trans (by rw [← Nat.add_assoc, blks_succ]; exact firsts_pre)
theorem mem_blks {l : List TProp} {j k : Nat} (h : j < k) : blockOf l j ∈ firsts (blks l k) := by
  rw [mem_firsts]; unfold blks
  exact List.mem_map.2 ⟨j, List.mem_range.2 h, rfl⟩
def LikeOk (l : List TProp) (like : Vector UInt8 4352) (k : Nat) : Prop := ∀ j, j < k → like.toList[j]? = some (UInt8.ofNat (pos (firsts (blks l k)) (blockOf l j)))
theorem like_next {l : List TProp} {like : Vector UInt8 4352} {k : Nat} (hk : k < 4352) (h : LikeOk l like k) : LikeOk l (vset like (k : Int) (UInt8.ofNat (pos (firsts (blks l (k + 1))) (blockOf l k)))) (k + 1) := by
  intro j hj
  rw [vset_list]
  simp only [Int.toNat_natCast]
  by_cases e : j = k
  · subst e; rw [List.getElem?_set_self (by simpa using hk)]
  · rw [List.getElem?_set_ne (fun h => e h.symm), h j (by omega), pos_pre (blks_pre 1) (mem_blks (by omega))]
theorem build_loop {N : Nat} (hN : N = 4352) {l : List TProp} (ho : ∀ x ∈ l, OkP x) (hl : l.length ≤ 4096) : ∀ (d k : Nat), k + d = N → ∀ (like : Vector UInt8 4352) (m : List (Vector UInt8 256 × Int)), Knows m (firsts (blks l k)) → (firsts (blks l k)).length ≤ 256 → LikeOk l like k →
    if (firsts (blks l N)).length ≤ 256 then ∃ like', LikeOk l like' N ∧ Loop (trie_Build.b1 l) ((k : Int), like, firsts (blks l k), m) = some (some ⟨like', firsts (blks l N)⟩, 0)
    else Loop (trie_Build.b1 l) ((k : Int), like, firsts (blks l k), m) = some (none, 3)
  | 0, k, h, like, m, hK, hF, hL => by
    obtain rfl : k = N := by omega
    rw [if_pos hF]
    refine ⟨like, hL, Loop_end ?_⟩
    simp only [trie_Build.b1]
    rw [if_neg (by simp; omega)]; rfl
  | d + 1, k, h, like, m, hK, hF, hL => by
    have hk : k < 4352 := by omega
    have h0 : trie_Build.b1 l ((k : Int), like, firsts (blks l k), m) = trie_Build.k3 (k : Int) like (firsts (blks l k)) m (blockOf l k) := by
      simp only [trie_Build.b1]
      rw [if_pos (by simp; omega), ← blockOf_nil k]
      exact b2_loop hk ho hl l.length 0 (by omega)
    have hpre : firsts (blks l (k + 1)) <+: firsts (blks l N) := by
      have := blks_pre (l := l) (k := k + 1) d
      rw [show k + 1 + d = N by omega] at this; exact this
    by_cases hb : blockOf l k ∈ firsts (blks l k)
    · have e1 : firsts (blks l (k + 1)) = firsts (blks l k) := by rw [blks_succ, firsts_snoc, addF, if_pos hb]
      have ih := build_loop hN ho hl d (k + 1) (by omega) (vset like (k : Int) (UInt8.ofNat (pos (firsts (blks l (k + 1))) (blockOf l k)))) m (by rw [e1]; exact hK) (by rw [e1]; exact hF) (like_next hk hL)
      have h1 : Loop (trie_Build.b1 l) ((k : Int), like, firsts (blks l k), m) = Loop (trie_Build.b1 l) (((k + 1 : Nat) : Int), (vset like (k : Int) (UInt8.ofNat (pos (firsts (blks l (k + 1))) (blockOf l k)))), firsts (blks l (k + 1)), m) := by
        refine Loop_next ?_
        rw [h0]
        unfold trie_Build.k3
        rw [add_in hk hK hF hb, Option.bind_some]
        simp only [Bool.not_true, Bool.false_eq_true, if_false]
        unfold trie_Build.k2
        rw [w64s (by omega), e1]
      rw [h1]; exact ih
    · have e1 : firsts (blks l (k + 1)) = firsts (blks l k) ++ [blockOf l k] := by rw [blks_succ, firsts_snoc, addF, if_neg hb]
      by_cases hf : (firsts (blks l k)).length < 256
      · have e2 : pos (firsts (blks l (k + 1))) (blockOf l k) = (firsts (blks l k)).length := by rw [e1, pos_new hb]
        have ih := build_loop hN ho hl d (k + 1) (by omega) (vset like (k : Int) (UInt8.ofNat (pos (firsts (blks l (k + 1))) (blockOf l k)))) (aput (blockOf l k) ((firsts (blks l k)).length : Int) m) (by rw [e1]; exact hK.new hb) (by rw [e1]; simp; omega) (like_next hk hL)
        have h1 : Loop (trie_Build.b1 l) ((k : Int), like, firsts (blks l k), m) = Loop (trie_Build.b1 l) (((k + 1 : Nat) : Int), (vset like (k : Int) (UInt8.ofNat (pos (firsts (blks l (k + 1))) (blockOf l k)))), firsts (blks l (k + 1)), (aput (blockOf l k) ((firsts (blks l k)).length : Int) m)) := by
          refine Loop_next ?_
          rw [h0]
          unfold trie_Build.k3
          rw [add_new hk hK hf hb, Option.bind_some]
          simp only [Bool.not_true, Bool.false_eq_true, if_false]
          unfold trie_Build.k2
          rw [w64s (by omega), e2, e1]
        rw [h1]; exact ih
      · have hlen : 256 < (firsts (blks l N)).length := by
          have := hpre.length_le
          rw [e1, List.length_append] at this
          simp at this; omega
        rw [if_neg (by omega)]
        refine Loop_done ?_
        rw [h0]
        unfold trie_Build.k3
        rw [add_full hK (by omega) hb, Option.bind_some]
        rfl
theorem ContainsP_eq {l : List TProp} {f : TProp → Option Bool} {g : TProp → Bool} (hf : ∀ x ∈ l, f x = some (g x)) (hl : l.length < 9223372036854775807) : slices_ContainsFunc_api_Prop_api_Prop l f = some (l.any g) := by
  have key : slices_IndexFunc_api_Prop_api_Prop l f = some (if l.any g then (l.findIdx g : Int) else -1) := by
    unfold slices_IndexFunc_api_Prop_api_Prop
    have hle : l.findIdx g ≤ l.length := List.findIdx_le_length
    have hrun := Loop_int (b := slices_IndexFunc_api_Prop_api_Prop.b1 l f) (i := 0) (n := l.findIdx g) (Nat.zero_le _) (fun j _ hj => by
      have hjl : j < l.length := by omega
      simp only [slices_IndexFunc_api_Prop_api_Prop.b1]
      have hg : g l[j] = false := by simpa using List.not_of_lt_findIdx hj
      rw [if_pos (by simpa using hjl), idx_nat, List.getElem?_eq_getElem hjl, Option.bind_some, hf _ (List.getElem_mem hjl), Option.bind_some, hg]
      simp only [Bool.false_eq_true, if_false]
      rw [w64s (by omega)])
    simp only [Int.ofNat_zero, Int.natCast_zero] at hrun
    rw [hrun]
    by_cases ha : l.any g
    · have hlt : l.findIdx g < l.length := List.findIdx_lt_length.2 (by simpa using ha)
      rw [if_pos ha]
      refine Loop_done ?_
      simp only [slices_IndexFunc_api_Prop_api_Prop.b1]
      have hg : g (l[l.findIdx g]) = true := List.findIdx_getElem
      rw [if_pos (by simpa using hlt), idx_nat, List.getElem?_eq_getElem hlt, Option.bind_some, hf _ (List.getElem_mem hlt), Option.bind_some, hg]
      rfl
    · have he : l.findIdx g = l.length := List.findIdx_eq_length.2 (by simpa using ha)
      rw [if_neg ha, he]
      refine Loop_end ?_
      simp only [slices_IndexFunc_api_Prop_api_Prop.b1]
      rw [if_neg (by simp)]; rfl
  unfold slices_ContainsFunc_api_Prop_api_Prop
  rw [key, Option.bind_some]
  cases h : l.any g <;> simp
theorem Build_of {N : Nat} (hN : N = 4352) {l : List TProp} (ho : ∀ x ∈ l, OkP x) (hl : l.length ≤ 4096) :
    if (firsts (blks l N)).length ≤ 256 then ∃ like', LikeOk l like' N ∧ trie_Build l = some (some ⟨like', firsts (blks l N)⟩, 0) else trie_Build l = some (none, 3) := by
  have h1 : trie_Build l = Loop (trie_Build.b1 l) (((0 : Nat) : Int), (Vector.replicate 4352 (0 : UInt8)), firsts (blks l 0), []) := by
    unfold trie_Build
    have hc := ContainsP_eq (l := l) (f := trie_Build_1) (g := fun _ => false) (fun x hx => by
      obtain ⟨a, b, c⟩ := ho x hx
      unfold trie_Build_1
      simp; omega) (by omega)
    rw [if_neg (by simp; omega), hc, Option.bind_some]
    have : l.any (fun _ => false) = false := by simp
    rw [this]; rfl
  rw [h1]
  exact build_loop hN ho hl N 0 (by omega) _ [] Knows_nil (by simp [blks, firsts]) (fun j hj => by omega)
/-- A number's value by the trie. -/
theorem TrieOf_eq {N : Nat} (hN : N = 4352) {l : List TProp} {like : Vector UInt8 4352} (hL : LikeOk l like N) (hF : (firsts (blks l N)).length ≤ 256) {r : Int} (h0 : 0 ≤ r) (h1 : r ≤ 1114111) : trie_Trie_Of ⟨like, firsts (blks l N)⟩ r = some (valN l r) := by
  obtain ⟨n, rfl⟩ : ∃ n : Nat, r = (n : Int) := ⟨r.toNat, by omega⟩
  have hd : n / 256 < N := by omega
  have hm : n % 256 < 256 := by omega
  unfold trie_Trie_Of
  rw [if_neg (by simp; omega)]
  have e1 : IntKind.i64.wrap (Int.tdiv (n : Int) 256) = ((n / 256 : Nat) : Int) := by
    rw [Int.tdiv_eq_ediv_of_nonneg (by omega), w64 (by omega) (by omega)]; omega
  have e2 : Int.tmod (n : Int) 256 = ((n % 256 : Nat) : Int) := by
    rw [Int.tmod_eq_emod_of_nonneg (by omega)]; omega
  rw [e1, e2, idx_nat, hL _ hd, Option.bind_some]
  have hmem := mem_blks (l := l) hd
  have hlt := pos_lt hmem
  have e3 : (UInt8.ofNat (pos (firsts (blks l N)) (blockOf l (n / 256)))).toNat = pos (firsts (blks l N)) (blockOf l (n / 256)) := by
    rw [UInt8.toNat_ofNat']; exact Nat.mod_eq_of_lt (by omega)
  have hg : (firsts (blks l N))[pos (firsts (blks l N)) (blockOf l (n / 256))]? = some (blockOf l (n / 256)) := pos_get hmem
  rw [e3, idx_nat, hg, Option.bind_some, idx_nat, blockOf_get l _ _ hm, Option.bind_some]
  congr 2
  omega
end Go.Val

/- part R12 -/
/- Plain lemmas: the edges of sets, by the program and by the reference. -/
namespace Go.Val
set_option linter.unusedVariables false
set_option linter.unusedSimpArgs false
theorem arr_at {zs : List Int} {m : Nat} (h : m < zs.length) : zs.toArray[m]! = zs[m] := by
  rw [getElem!_pos zs.toArray m (by simpa using h)]; simp
theorem compact_part {zs : List Int} (hs : zs.Pairwise (· ≤ ·)) : ∀ m, m ≤ zs.length → (Go.Lib.compactUpTo zs.toArray m).Pairwise (· < ·) ∧ (∀ x, x ∈ Go.Lib.compactUpTo zs.toArray m ↔ x ∈ zs.take m) ∧ (Go.Lib.compactUpTo zs.toArray m).length ≤ m
  | 0, _ => by simp [Go.Lib.compactUpTo]
  | m + 1, h => by
    obtain ⟨ih1, ih2, ih3⟩ := compact_part hs m (by omega)
    have hm : m < zs.length := by omega
    have hle : ∀ x ∈ zs.take m, x ≤ zs[m] := by
      intro x hx
      obtain ⟨j, hj, rfl⟩ := List.getElem_of_mem hx
      rw [List.getElem_take]
      have : j < m := by simp at hj; omega
      exact (List.pairwise_iff_getElem.1 hs) j m (by omega) hm this
    rw [Go.Lib.compactUpTo_succ, arr_at hm, take_snocP hm]
    by_cases hk : Go.Lib.keeps zs.toArray m = true
    · rw [if_pos hk]
      refine ⟨?_, fun x => by rw [List.mem_append, List.mem_append, ih2], by simp; omega⟩
      rw [List.pairwise_append]
      refine ⟨ih1, List.pairwise_singleton _ _, fun x hx y hy => ?_⟩
      simp at hy; subst hy
      have h1 := hle x ((ih2 x).1 hx)
      rcases Int.lt_or_eq_of_le h1 with h2 | h2
      · exact h2
      · exfalso
        simp only [Go.Lib.keeps, decide_eq_true_eq] at hk
        rcases hk with hk | hk
        · subst hk; simp at ih2; exact absurd hx (ih2 x)
        · have h0 : 0 < m := by
            rcases Nat.eq_zero_or_pos m with h0 | h0
            · subst h0; exact absurd ((ih2 x).1 hx) (by simp)
            · exact h0
          rw [arr_at hm, arr_at (by omega)] at hk
          have hx2 := (ih2 x).1 hx
          obtain ⟨j, hj, rfl⟩ := List.getElem_of_mem hx2
          rw [List.getElem_take] at h2
          have hj2 : j < m := by simp at hj; omega
          have hj3 : zs[j]'(by omega) ≤ zs[m - 1]'(by omega) := by
            rcases Nat.lt_or_ge j (m - 1) with q | q
            · exact (List.pairwise_iff_getElem.1 hs) j (m - 1) (by omega) (by omega) q
            · have : j = m - 1 := by omega
              subst this; exact Int.le_refl _
          have hj4 : zs[m - 1]'(by omega) ≤ zs[m] := (List.pairwise_iff_getElem.1 hs) (m - 1) m (by omega) hm (by omega)
          exact hk (by omega)
    · rw [if_neg hk, List.append_nil]
      refine ⟨ih1, fun x => ?_, by omega⟩
      rw [ih2, List.mem_append]
      refine ⟨.inl, fun h => h.elim id fun h => ?_⟩
      simp at h; subst h
      simp only [Go.Lib.keeps, decide_eq_true_eq, not_or, ne_eq, Classical.not_not] at hk
      rw [arr_at hm, arr_at (by omega)] at hk
      rw [hk.2]
      exact List.mem_take_iff_getElem.2 ⟨m - 1, by omega, rfl⟩
theorem compact_spec {zs : List Int} (hs : zs.Pairwise (· ≤ ·)) : (Go.Lib.compact zs).Pairwise (· < ·) ∧ (∀ x, x ∈ Go.Lib.compact zs ↔ x ∈ zs) ∧ (Go.Lib.compact zs).length ≤ zs.length := by
  have := compact_part hs zs.length (Nat.le_refl _)
  rw [List.take_length] at this; exact this
theorem rise_unique : ∀ {l m : List Int}, l.Pairwise (· < ·) → m.Pairwise (· < ·) → (∀ x, x ∈ l ↔ x ∈ m) → l = m
  | [], [], _, _, _ => rfl
  | [], b :: m, _, _, h => absurd ((h b).2 (by simp)) (by simp)
  | a :: l, [], _, _, h => absurd ((h a).1 (by simp)) (by simp)
  | a :: l, b :: m, h1, h2, h => by
    rw [List.pairwise_cons] at h1 h2
    have hab : a = b := by
      have ha := (h a).1 (by simp)
      have hb := (h b).2 (by simp)
      rcases List.mem_cons.1 ha with e | ha
      · exact e
      · rcases List.mem_cons.1 hb with e | hb
        · exact e.symm
        · have := h1.1 b hb; have := h2.1 a ha; omega
    subst hab
    rw [rise_unique h1.2 h2.2 fun x => ?_]
    have := h x
    simp only [List.mem_cons] at this
    constructor
    · intro hx
      have := h1.1 x hx
      exact (this |> fun _ => (‹x = a ∨ x ∈ l ↔ x = a ∨ x ∈ m›.1 (.inr hx))).elim (fun e => by omega) id
    · intro hx
      have := h2.1 x hx
      exact (this |> fun _ => (‹x = a ∨ x ∈ l ↔ x = a ∨ x ∈ m›.2 (.inr hx))).elim (fun e => by omega) id
theorem flat_snoc {S : List (List TRange)} {i : Nat} (h : i < S.length) : (S.take (i + 1)).flatten = (S.take i).flatten ++ S[i] := by
  rw [take_snocP h, List.flatten_append]; simp
theorem flat_len {S : List (List TRange)} (i : Nat) : (S.take i).flatten.length ≤ S.flatten.length := by
  have : S.flatten = (S.take i).flatten ++ (S.drop i).flatten := by rw [← List.flatten_append, List.take_append_drop]
  rw [this, List.length_append]; omega
theorem ed_len {S : List (List TRange)} {i : Nat} (h : i < S.length) : (S.take i).flatten.length + S[i].length ≤ S.flatten.length := by
  have := flat_len (S := S) (i + 1)
  rw [flat_snoc h, List.length_append] at this; exact this
theorem mem_flat {S : List (List TRange)} {i : Nat} (h : i < S.length) {x : TRange} (hx : x ∈ S[i]) : x ∈ S.flatten := List.mem_flatten.2 ⟨S[i], List.getElem_mem h, hx⟩
/-- The program's edges, before they are sorted. -/
theorem ed_inner {S : List (List TRange)} (hok : ∀ x ∈ S.flatten, Ok x) (hl : S.flatten.length ≤ 1000000) {i : Nat} (hi : i < S.length) : ∀ (d k : Nat), k + d = S[i].length → ∀ out : List Int, (∀ e, e ∈ out ↔ Edge ((S.take i).flatten ++ S[i].take k) e) → out.length ≤ 2 * ((S.take i).flatten.length + k) + 1 →
    ∃ out', Loop (alphabet_edges.b2 (i : Int) S[i]) (out, (k : Int)) = alphabet_edges.k2 (i : Int) out' ∧ (∀ e, e ∈ out' ↔ Edge ((S.take (i + 1)).flatten) e) ∧ out'.length ≤ 2 * (S.take (i + 1)).flatten.length + 1
  | 0, k, h, out, hm, ho => by
    obtain rfl : k = S[i].length := by omega
    refine ⟨out, Loop_end ?_, fun e => by rw [hm, flat_snoc hi, List.take_length], by rw [flat_snoc hi, List.length_append]; exact ho⟩
    simp only [alphabet_edges.b2]
    rw [if_neg (by simp)]
  | d + 1, k, h, out, hm, ho => by
    have hk : k < S[i].length := by omega
    have hel := ed_len hi
    obtain ⟨a, b, c⟩ := hok _ (mem_flat hi (List.getElem_mem hk))
    have htk : S[i].take (k + 1) = S[i].take k ++ [S[i][k]] := take_snocP hk
    by_cases hh : S[i][k].High < 1114111
    · obtain ⟨out', h1, h2, h3⟩ := ed_inner hok hl hi d (k + 1) (by omega) (out ++ [S[i][k].Low] ++ [S[i][k].High + 1]) (fun e => by
        rw [htk, ← List.append_assoc, Edge_snoc, ← hm]
        simp only [List.mem_append, List.mem_singleton]
        constructor
        · rintro ((h | h) | h)
          · exact .inl (.inl h)
          · exact .inl (.inr h)
          · exact .inr ⟨hh, h⟩
        · rintro ((h | h) | h)
          · exact .inl (.inl h)
          · exact .inl (.inr h)
          · exact .inr h.2) (by simp only [List.length_append, List.length_singleton]; omega)
      refine ⟨out', ?_, h2, h3⟩
      rw [← h1]
      refine Loop_next ?_
      simp only [alphabet_edges.b2]
      rw [if_pos (by simpa using hk), idx_nat, List.getElem?_eq_getElem hk, Option.bind_some, room_ok (by omega), Option.bind_some, if_pos (decide_eq_true hh), room_ok (by omega), Option.bind_some, w64 (n := S[i][k].High + 1) (by omega) (by omega)]
      unfold alphabet_edges.k3
      rw [w64s (by omega)]
    · obtain ⟨out', h1, h2, h3⟩ := ed_inner hok hl hi d (k + 1) (by omega) (out ++ [S[i][k].Low]) (fun e => by
        rw [htk, ← List.append_assoc, Edge_snoc, ← hm]
        simp only [List.mem_append, List.mem_singleton]
        constructor
        · rintro (h | h)
          · exact .inl (.inl h)
          · exact .inl (.inr h)
        · rintro ((h | h) | h)
          · exact .inl h
          · exact .inr h
          · exact absurd h.1 hh) (by simp only [List.length_append, List.length_singleton]; omega)
      refine ⟨out', ?_, h2, h3⟩
      rw [← h1]
      refine Loop_next ?_
      simp only [alphabet_edges.b2]
      rw [if_pos (by simpa using hk), idx_nat, List.getElem?_eq_getElem hk, Option.bind_some, room_ok (by omega), Option.bind_some, if_neg (by simpa using hh)]
      unfold alphabet_edges.k3
      rw [w64s (by omega)]
theorem ed_outer {S : List (List TRange)} (hok : ∀ x ∈ S.flatten, Ok x) (hl : S.flatten.length ≤ 1000000) (hs : S.length ≤ 1000000) : ∀ (d i : Nat), i + d = S.length → ∀ out : List Int, (∀ e, e ∈ out ↔ Edge ((S.take i).flatten) e) → out.length ≤ 2 * (S.take i).flatten.length + 1 →
    ∃ out', Loop (alphabet_edges.b1 S) (out, (i : Int)) = alphabet_edges.k1 out' ∧ (∀ e, e ∈ out' ↔ Edge S.flatten e) ∧ out'.length ≤ 2 * S.flatten.length + 1
  | 0, i, h, out, hm, ho => by
    obtain rfl : i = S.length := by omega
    rw [List.take_length] at hm ho
    refine ⟨out, Loop_end ?_, hm, ho⟩
    simp only [alphabet_edges.b1]
    rw [if_neg (by simp)]
  | d + 1, i, h, out, hm, ho => by
    have hi : i < S.length := by omega
    obtain ⟨o1, h1, h2, h3⟩ := ed_inner hok hl hi S[i].length 0 (by omega) out (fun e => by rw [hm]; simp) (by omega)
    obtain ⟨o2, q1, q2, q3⟩ := ed_outer hok hl hs d (i + 1) (by omega) o1 h2 h3
    refine ⟨o2, ?_, q2, q3⟩
    rw [← q1]
    refine Loop_next ?_
    simp only [alphabet_edges.b1]
    rw [if_pos (by simpa using hi), idx_nat, List.getElem?_eq_getElem hi, Option.bind_some]
    refine h1.trans ?_
    unfold alphabet_edges.k2
    rw [w64s (by omega)]
theorem edges_ok {S : List (List TRange)} (hok : ∀ x ∈ S.flatten, Ok x) (hl : S.flatten.length ≤ 1000000) (hs : S.length ≤ 1000000) : ∃ E, alphabet_edges S = some E ∧ E.Pairwise (· < ·) ∧ (∀ e, e ∈ E ↔ Edge S.flatten e) ∧ E.length ≤ 2 * S.flatten.length + 1 := by
  obtain ⟨o, h1, h2, h3⟩ := ed_outer hok hl hs S.length 0 (by omega) [0] (fun e => by simp [Edge]) (by simp)
  have hp : (o.mergeSort fun x y => decide (x ≤ y)).Perm o := List.mergeSort_perm _ _
  have hsort : (o.mergeSort fun x y => decide (x ≤ y)).Pairwise (· ≤ ·) := by
    have := List.pairwise_mergeSort (le := fun x y : Int => decide (x ≤ y)) (by intro a b c; simp; omega) (by intro a b; simp; omega) o
    exact this.imp (by simp)
  obtain ⟨c1, c2, c3⟩ := compact_spec hsort
  have hlen := hp.length_eq
  refine ⟨Go.Lib.compact (o.mergeSort fun x y => decide (x ≤ y)), ?_, c1, fun e => by rw [c2, hp.mem_iff, h2], by omega⟩
  refine h1.trans ?_
  unfold alphabet_edges.k1 sortI
  rw [if_pos (by unfold roomOf; omega), Option.bind_some]
  unfold slices_Compact_int_int
  rw [if_pos (by unfold roomOf; omega)]; rfl
end Go.Val

/- part R13 -/
/- Plain lemmas: the reference's edges are the program's. -/
namespace Go.Val
set_option linter.unusedVariables false
set_option linter.unusedSimpArgs false
theorem rising9_eq : scansionref09_rising = scansionref02_rising := rfl
theorem red_inner {S : List (List TRange)} (hok : ∀ x ∈ S.flatten, Ok x) (hl : S.flatten.length ≤ 1000000) {i : Nat} (hi : i < S.length) : ∀ (d k : Nat), k + d = S[i].length → ∀ out : List Int, out.Pairwise (· < ·) → (∀ e, e ∈ out ↔ Edge ((S.take i).flatten ++ S[i].take k) e) → out.length ≤ 2 * ((S.take i).flatten.length + k) + 1 →
    ∃ out', Loop (scansionref09_edges.b2 S (i : Int)) (out, (k : Int)) = scansionref09_edges.k2 (i : Int) out' ∧ out'.Pairwise (· < ·) ∧ (∀ e, e ∈ out' ↔ Edge ((S.take (i + 1)).flatten) e) ∧ out'.length ≤ 2 * (S.take (i + 1)).flatten.length + 1
  | 0, k, h, out, hp, hm, ho => by
    obtain rfl : k = S[i].length := by omega
    refine ⟨out, Loop_end ?_, hp, fun e => by rw [hm, flat_snoc hi, List.take_length], by rw [flat_snoc hi, List.length_append]; exact ho⟩
    simp only [scansionref09_edges.b2]
    rw [idx_nat, List.getElem?_eq_getElem hi, Option.bind_some, if_neg (by simp)]
  | d + 1, k, h, out, hp, hm, ho => by
    have hk : k < S[i].length := by omega
    have hel := ed_len hi
    obtain ⟨a, b, c⟩ := hok _ (mem_flat hi (List.getElem_mem hk))
    have htk : S[i].take (k + 1) = S[i].take k ++ [S[i][k]] := take_snocP hk
    obtain ⟨r, r1, r2, r3, r4⟩ := rising_spec (n := S[i][k].Low) hp (by omega)
    by_cases hh : S[i][k].High < 1114111
    · obtain ⟨q, q1, q2, q3, q4⟩ := rising_spec (n := S[i][k].High + 1) r2 (by omega)
      obtain ⟨out', h1, h2, h3, h4⟩ := red_inner hok hl hi d (k + 1) (by omega) q q2 (fun e => by
        rw [htk, ← List.append_assoc, Edge_snoc, ← hm, q3, r3]
        constructor
        · rintro (h | h)
          · exact .inl h
          · exact .inr ⟨hh, h⟩
        · rintro (h | h)
          · exact .inl h
          · exact .inr h.2) (by omega)
      refine ⟨out', ?_, h2, h3, h4⟩
      rw [← h1]
      refine Loop_next ?_
      simp only [scansionref09_edges.b2]
      rw [idx_nat, List.getElem?_eq_getElem hi, Option.bind_some, if_pos (by simpa using hk), idx_nat, List.getElem?_eq_getElem hk, Option.bind_some, rising9_eq, r1, Option.bind_some, if_pos (decide_eq_true hh), w64 (n := S[i][k].High + 1) (by omega) (by omega), q1, Option.bind_some]
      unfold scansionref09_edges.k3
      rw [w64s (by omega)]
    · obtain ⟨out', h1, h2, h3, h4⟩ := red_inner hok hl hi d (k + 1) (by omega) r r2 (fun e => by
        rw [htk, ← List.append_assoc, Edge_snoc, ← hm, r3]
        constructor
        · exact .inl
        · rintro (h | h)
          · exact h
          · exact absurd h.1 hh) (by omega)
      refine ⟨out', ?_, h2, h3, h4⟩
      rw [← h1]
      refine Loop_next ?_
      simp only [scansionref09_edges.b2]
      rw [idx_nat, List.getElem?_eq_getElem hi, Option.bind_some, if_pos (by simpa using hk), idx_nat, List.getElem?_eq_getElem hk, Option.bind_some, rising9_eq, r1, Option.bind_some, if_neg (by simpa using hh)]
      unfold scansionref09_edges.k3
      rw [w64s (by omega)]
theorem red_outer {S : List (List TRange)} (hok : ∀ x ∈ S.flatten, Ok x) (hl : S.flatten.length ≤ 1000000) (hs : S.length ≤ 1000000) : ∀ (d i : Nat), i + d = S.length → ∀ out : List Int, out.Pairwise (· < ·) → (∀ e, e ∈ out ↔ Edge ((S.take i).flatten) e) → out.length ≤ 2 * (S.take i).flatten.length + 1 →
    ∃ out', Loop (scansionref09_edges.b1 S) (out, (i : Int)) = some out' ∧ out'.Pairwise (· < ·) ∧ (∀ e, e ∈ out' ↔ Edge S.flatten e)
  | 0, i, h, out, hp, hm, ho => by
    obtain rfl : i = S.length := by omega
    rw [List.take_length] at hm
    refine ⟨out, Loop_end (R := some out) ?_, hp, hm⟩
    simp only [scansionref09_edges.b1]
    rw [if_neg (by simp)]; rfl
  | d + 1, i, h, out, hp, hm, ho => by
    have hi : i < S.length := by omega
    obtain ⟨o1, h1, h2, h3, h4⟩ := red_inner hok hl hi S[i].length 0 (by omega) out hp (fun e => by rw [hm]; simp) (by omega)
    obtain ⟨o2, q1, q2, q3⟩ := red_outer hok hl hs d (i + 1) (by omega) o1 h2 h3 h4
    refine ⟨o2, ?_, q2, q3⟩
    rw [← q1]
    refine Loop_next ?_
    simp only [scansionref09_edges.b1]
    rw [if_pos (by simpa using hi)]
    refine h1.trans ?_
    unfold scansionref09_edges.k2
    rw [w64s (by omega)]
/-- The rising edges of sets; both find them. -/
theorem edges_both {S : List (List TRange)} (hok : ∀ x ∈ S.flatten, Ok x) (hl : S.flatten.length ≤ 1000000) (hs : S.length ≤ 1000000) : ∃ E, alphabet_edges S = some E ∧ scansionref09_edges S = some E ∧ E.Pairwise (· < ·) ∧ (∀ e, e ∈ E ↔ Edge S.flatten e) ∧ E.length ≤ 2 * S.flatten.length + 1 := by
  obtain ⟨E, h1, h2, h3, h4⟩ := edges_ok hok hl hs
  obtain ⟨D, q1, q2, q3⟩ := red_outer hok hl hs S.length 0 (by omega) [0] (List.pairwise_singleton _ _) (fun e => by simp [Edge]) (by simp)
  have : D = E := rise_unique q2 h2 fun x => by rw [q3, h3]
  subst this
  exact ⟨D, h1, q1, h2, h3, h4⟩
end Go.Val

/- part R14 -/
/- Plain lemmas: the classes of the program. -/
namespace Go.Val
set_option linter.unusedVariables false
set_option linter.unusedSimpArgs false
/-- One number of each class, where it is first. -/
def addR {α K : Type} [DecidableEq K] (f : α → K) (L : List α) (a : α) : List α := if f a ∈ L.map f then L else L ++ [a]
def reps {α K : Type} [DecidableEq K] (f : α → K) (l : List α) : List α := l.foldl (addR f) []
theorem reps_snoc {α K : Type} [DecidableEq K] {f : α → K} {l : List α} {a : α} : reps f (l ++ [a]) = addR f (reps f l) a := by
  unfold reps; rw [List.foldl_append]; rfl
theorem reps_map {α K : Type} [DecidableEq K] {f : α → K} {l : List α} : (reps f l).map f = firsts (l.map f) := by
  induction l using snoc_ind with
  | h0 => rfl
  | h1 l x ih =>
    rw [reps_snoc, List.map_append, List.map_singleton, firsts_snoc, ← ih]
    unfold addR addF
    split <;> simp
theorem reps_len {α K : Type} [DecidableEq K] {f : α → K} {l : List α} : (reps f l).length = (firsts (l.map f)).length := by rw [← reps_map, List.length_map]
theorem firsts_len {K : Type} [DecidableEq K] {l : List K} : (firsts l).length ≤ l.length := by
  induction l using snoc_ind with
  | h0 => simp [firsts]
  | h1 l x ih =>
    rw [firsts_snoc]
    unfold addF
    split
    · simp; omega
    · simp; omega
/-- A number's mask. -/
def mkI (S : List (List TRange)) (r : Int) : Int := ((maskP S r S.length : Nat) : Int)
/-- The first pieces between edges, with their classes. -/
def pieces (f : Int → Int) (E : List Int) (k : Nat) : List TProp := (List.range k).map fun i => ⟨bnd E i, bnd E (i + 1) - 1, UInt8.ofNat (pos (firsts (E.map f)) (f (bnd E i)))⟩
theorem pieces_succ {f : Int → Int} {E : List Int} {k : Nat} : pieces f E (k + 1) = pieces f E k ++ [⟨bnd E k, bnd E (k + 1) - 1, UInt8.ofNat (pos (firsts (E.map f)) (f (bnd E k)))⟩] := by
  unfold pieces; rw [List.range_succ, List.map_append]; rfl
theorem pieces_len {f : Int → Int} {E : List Int} {k : Nat} : (pieces f E k).length = k := by simp [pieces]
theorem take_map_pre {f : Int → Int} {E : List Int} (k : Nat) : firsts ((E.take k).map f) <+: firsts (E.map f) := by
  have : E.map f = (E.take k).map f ++ (E.drop k).map f := by rw [← List.map_append, List.take_append_drop]
  rw [this]; exact firsts_pre
variable {S : List (List TRange)} {E : List Int}
theorem new_k3 {k c : Nat} {L M : List Int} {m : List (Int × Int)} (hk : k < E.length) (hb : ∀ e ∈ E, 0 ≤ e ∧ e ≤ 1114111) (hE : E.length ≤ 4096) (hm : m.length ≤ 200) (hc : c < 256) (hp : c = pos (firsts (E.map (mkI S))) (mkI S (bnd E k))) :
    alphabet_New.k3 E (pieces (mkI S) E k) (k : Int) E[k] (c : Int) M L m = some (.next (pieces (mkI S) E (k + 1), ((k + 1 : Nat) : Int), M, L, m)) := by
  unfold alphabet_New.k3
  rw [if_neg (by simp; omega), w64s (by omega)]
  have h4 : ∀ h : Int, h = bnd E (k + 1) - 1 → alphabet_New.k4 (pieces (mkI S) E k) (k : Int) E[k] (c : Int) M L m h = some (.next (pieces (mkI S) E (k + 1), ((k + 1 : Nat) : Int), M, L, m)) := by
    intro h e
    unfold alphabet_New.k4
    rw [room_ok (by rw [pieces_len]; omega), Option.bind_some, w64s (by omega), u8w_nat hc, pieces_succ, ← hp, bnd_at hk, e]
  by_cases h1 : k + 1 < E.length
  · have hx := hb _ (List.getElem_mem h1)
    rw [if_pos (decide_eq_true (by omega)), idx_nat, List.getElem?_eq_getElem h1, Option.bind_some]
    exact h4 _ (by rw [bnd_at h1, w64 (by omega) (by omega)])
  · rw [if_neg (by simp; omega)]
    have e : k + 1 = E.length := by omega
    exact h4 _ (by rw [e, bnd_end]; rfl)
theorem new_loop (hn : ∀ s ∈ S, Norm s) (hS : S.length ≤ 60) (hb : ∀ e ∈ E, 0 ≤ e ∧ e ≤ 1114111) (hE : E.length ≤ 4096) : ∀ (d k : Nat), k + d = E.length → ∀ m : List (Int × Int), Knows m (firsts ((E.take k).map (mkI S))) → (firsts ((E.take k).map (mkI S))).length ≤ 200 →
    Loop (alphabet_New.b1 S E) (pieces (mkI S) E k, (k : Int), firsts ((E.take k).map (mkI S)), reps (mkI S) (E.take k), m) = if (firsts (E.map (mkI S))).length ≤ 200 then alphabet_New.k2 (pieces (mkI S) E E.length) (firsts (E.map (mkI S))) (reps (mkI S) E) else some (none, 3)
  | 0, k, h, m, hK, hF => by
    obtain rfl : k = E.length := by omega
    rw [List.take_length] at hF ⊢
    rw [if_pos hF]
    refine Loop_end ?_
    simp only [alphabet_New.b1]
    rw [if_neg (by simp)]
  | d + 1, k, h, m, hK, hF => by
    have hk : k < E.length := by omega
    have hmask : alphabet_mask S E[k] = some (mkI S E[k]) := mask_eq hn hS E[k]
    have htk : (E.take (k + 1)).map (mkI S) = (E.take k).map (mkI S) ++ [mkI S E[k]] := by rw [take_snocP hk, List.map_append]; rfl
    have hr : reps (mkI S) (E.take (k + 1)) = addR (mkI S) (reps (mkI S) (E.take k)) E[k] := by rw [take_snocP hk, reps_snoc]
    have hpre := take_map_pre (f := mkI S) (E := E) (k + 1)
    have hmem : mkI S E[k] ∈ firsts ((E.take (k + 1)).map (mkI S)) := by rw [mem_firsts, htk]; simp
    have hrl := reps_len (f := mkI S) (l := E.take k)
    by_cases hin : mkI S E[k] ∈ firsts ((E.take k).map (mkI S))
    · have e1 : firsts ((E.take (k + 1)).map (mkI S)) = firsts ((E.take k).map (mkI S)) := by rw [htk, firsts_snoc, addF, if_pos hin]
      have e2 : reps (mkI S) (E.take (k + 1)) = reps (mkI S) (E.take k) := by rw [hr, addR, reps_map, if_pos hin]
      have ih := new_loop hn hS hb hE d (k + 1) (by omega) m (by rw [e1]; exact hK) (by rw [e1]; exact hF)
      rw [← ih, e1, e2]
      refine Loop_next ?_
      simp only [alphabet_New.b1]
      rw [if_pos (by simpa using hk), idx_nat, List.getElem?_eq_getElem hk, Option.bind_some, hmask, Option.bind_some, hK.some hin]
      simp only [Option.isSome_some, Bool.not_true, Bool.false_eq_true, if_false, Option.getD_some]
      have hlt := pos_lt hin
      refine new_k3 hk hb hE (by rw [hK.1]; exact hF) (by omega) ?_
      rw [bnd_at hk, pos_pre hpre hmem, e1]
    · have e1 : firsts ((E.take (k + 1)).map (mkI S)) = firsts ((E.take k).map (mkI S)) ++ [mkI S E[k]] := by rw [htk, firsts_snoc, addF, if_neg hin]
      have e2 : reps (mkI S) (E.take (k + 1)) = reps (mkI S) (E.take k) ++ [E[k]] := by rw [hr, addR, reps_map, if_neg hin]
      have hK2 := hK.new hin
      have hstep : alphabet_New.b1 S E (pieces (mkI S) E k, (k : Int), firsts ((E.take k).map (mkI S)), reps (mkI S) (E.take k), m) = alphabet_New.k3 E (pieces (mkI S) E k) (k : Int) E[k] ((firsts ((E.take k).map (mkI S))).length : Int) (firsts ((E.take k).map (mkI S)) ++ [mkI S E[k]]) (reps (mkI S) (E.take k) ++ [E[k]]) (aput (mkI S E[k]) ((firsts ((E.take k).map (mkI S))).length : Int) m) := by
        simp only [alphabet_New.b1]
        rw [if_pos (by simpa using hk), idx_nat, List.getElem?_eq_getElem hk, Option.bind_some, hmask, Option.bind_some, hK.none hin]
        simp only [Option.isSome_none, Bool.not_false, if_true]
        rw [room_ok (by omega), Option.bind_some, room_ok (by omega), Option.bind_some, hK.1]
      by_cases hf : (firsts ((E.take k).map (mkI S))).length < 200
      · have ih := new_loop hn hS hb hE d (k + 1) (by omega) _ (by rw [e1]; exact hK2) (by rw [e1, List.length_append, List.length_singleton]; omega)
        rw [← ih, e1, e2]
        refine Loop_next (hstep.trans (new_k3 hk hb hE (by rw [hK2.1, List.length_append, List.length_singleton]; omega) (by omega) ?_))
        rw [bnd_at hk, pos_pre hpre hmem, e1, pos_new hin]
      · have hlen := hpre.length_le
        rw [e1, List.length_append, List.length_singleton] at hlen
        rw [if_neg (by omega)]
        refine Loop_done (hstep.trans ?_)
        unfold alphabet_New.k3
        rw [if_pos (decide_eq_true (by rw [hK2.1, List.length_append, List.length_singleton]; omega))]
end Go.Val

/- part R15 -/
/- Plain lemmas: the classes of the reference; a number's value by the pieces. -/
namespace Go.Val
set_option linter.unusedVariables false
set_option linter.unusedSimpArgs false
variable {S : List (List TRange)} {E : List Int}
theorem bnd_mono (hp : E.Pairwise (· < ·)) (hE : ∀ e ∈ E, e ≤ 1114111) : ∀ (d i : Nat), i + d ≤ E.length → bnd E i ≤ bnd E (i + d)
  | 0, i, h => Int.le_refl _
  | d + 1, i, h => by
    have h1 := bnd_mono hp hE d i (by omega)
    have h2 := bnd_lt hp hE (k := i + d) (by omega)
    rw [← bnd_at (by omega)] at h2
    rw [← Nat.add_assoc]; omega
/-- Each number is in one piece. -/
theorem piece_at (hp : E.Pairwise (· < ·)) (hE : ∀ e ∈ E, 0 ≤ e ∧ e ≤ 1114111) (h0 : (0 : Int) ∈ E) {r : Int} (hr : 0 ≤ r) (hr2 : r ≤ 1114111) : ∃ k, k < E.length ∧ bnd E k ≤ r ∧ r < bnd E (k + 1) := by
  have hpos : 0 < E.length := List.length_pos_of_mem h0
  have hz : bnd E 0 = 0 := by
    rw [bnd_at hpos]
    obtain ⟨j, hj, e⟩ := List.getElem_of_mem h0
    have h1 := hE _ (List.getElem_mem hpos)
    rcases Nat.eq_zero_or_pos j with q | q
    · subst q; exact e
    · have := (List.pairwise_iff_getElem.1 hp) 0 j hpos hj q
      omega
  have key : ∀ n, n ≤ E.length → (∃ k, k < n ∧ bnd E k ≤ r ∧ r < bnd E (k + 1)) ∨ bnd E n ≤ r := by
    intro n
    induction n with
    | zero => exact fun _ => .inr (by omega)
    | succ n ih =>
      intro hn
      rcases ih (by omega) with ⟨k, h1, h2⟩ | h
      · exact .inl ⟨k, by omega, h2⟩
      · by_cases hc : bnd E (n + 1) ≤ r
        · exact .inr hc
        · exact .inl ⟨n, by omega, h, by omega⟩
  rcases key E.length (Nat.le_refl _) with h | h
  · exact h
  · rw [bnd_end] at h; omega
theorem pieces_val {f : Int → Int} (hp : E.Pairwise (· < ·)) (hE : ∀ e ∈ E, 0 ≤ e ∧ e ≤ 1114111) {k : Nat} (hk : k < E.length) {r : Int} (h1 : bnd E k ≤ r) (h2 : r < bnd E (k + 1)) : ∀ j, j ≤ E.length → valN (pieces f E j) r = if k < j then UInt8.ofNat (pos (firsts (E.map f)) (f (bnd E k))) else 0
  | 0, _ => by rw [if_neg (by omega)]; rfl
  | j + 1, hj => by
    rw [pieces_succ, valN_snoc, pieces_val hp hE hk h1 h2 j (by omega)]
    have hm := fun d i => bnd_mono hp (fun e he => (hE e he).2) d i
    by_cases e : j = k
    · subst e
      rw [if_pos ⟨h1, by show r ≤ bnd E (j + 1) - 1; omega⟩, if_pos (by omega)]
    · rw [if_neg]
      · by_cases hlt : k < j
        · rw [if_pos hlt, if_pos (by omega)]
        · rw [if_neg hlt, if_neg (by omega)]
      · show ¬ (bnd E j ≤ r ∧ r ≤ bnd E (j + 1) - 1)
        rintro ⟨a, b⟩
        rcases Nat.lt_or_ge j k with q | q
        · have := hm (k - (j + 1)) (j + 1) (by omega)
          rw [show j + 1 + (k - (j + 1)) = k by omega] at this; omega
        · have := hm (j - (k + 1)) (k + 1) (by omega)
          rw [show k + 1 + (j - (k + 1)) = j by omega] at this; omega
theorem pieces_ok {f : Int → Int} (hp : E.Pairwise (· < ·)) (hE : ∀ e ∈ E, 0 ≤ e ∧ e ≤ 1114111) : ∀ x ∈ pieces f E E.length, OkP x := by
  intro x hx
  unfold pieces at hx
  obtain ⟨i, hi, rfl⟩ := List.mem_map.1 hx
  have hi2 : i < E.length := List.mem_range.1 hi
  have h1 := bnd_lt hp (fun e he => (hE e he).2) hi2
  have h2 := hE _ (List.getElem_mem hi2)
  unfold OkP
  simp only
  rw [← bnd_at hi2] at h1 h2
  refine ⟨h2.1, by omega, ?_⟩
  by_cases h3 : i + 1 < E.length
  · have := hE _ (List.getElem_mem h3)
    rw [bnd_at h3]; omega
  · rw [show i + 1 = E.length by omega, bnd_end]; omega
end Go.Val

/- part R16 -/
/- Plain lemmas: the program's alphabet and the reference's, whole. -/
namespace Go.Val
set_option linter.unusedVariables false
set_option linter.unusedSimpArgs false
theorem Equal_same : slices_Equal_api_Range_api_Range = scansionref02_Same := rfl
/-- Make by both. -/
theorem Make_both {l : List TRange} (hl : l.length ≤ 1000000) : ∃ out e, ranges_Make l = some (out, e) ∧ scansionref02_Make l = some (out, e) ∧ Norm out ∧ out.length ≤ l.length ∧ (e = 0 → ∀ t, In out t ↔ In l t) ∧ (e ≠ 0 → e = 1 ∧ out = [] ∧ ¬ ∀ x ∈ l, Ok x) := by
  by_cases hok : ∀ x ∈ l, Ok x
  · obtain ⟨o, h1, h2, h3, h4⟩ := Make_ok hok (by omega)
    obtain ⟨p, q1, q2, q3⟩ := refMake_ok hok (by omega)
    have e : p = o := Norm.unique q2 h2 fun r => by rw [q3, h3]
    subst e
    exact ⟨p, 0, h1, q1, h2, h4, fun _ => h3, fun h => absurd rfl h⟩
  · exact ⟨[], 1, Make_bad hok (by omega), refMake_bad hok (by omega), Norm_nil, by simp, fun h => by simp at h, fun _ => ⟨rfl, rfl, hok⟩⟩
theorem Make_norm {l out : List TRange} {e : Int} (h : Norm l) (ho : Norm out) (h0 : e = 0 → ∀ t, In out t ↔ In l t) (h1 : e ≠ 0 → e = 1 ∧ out = [] ∧ ¬ ∀ x ∈ l, Ok x) : e = 0 ∧ out = l := by
  by_cases he : e = 0
  · exact ⟨he, Norm.unique ho h (h0 he)⟩
  · exact absurd h.1 (h1 he).2.2
/-- Sets that the program takes. -/
structure Good (S : List (List TRange)) : Prop where
  norm : ∀ s ∈ S, Norm s
  few : S.length ≤ 60
  small : S.flatten.length ≤ 1200
theorem Good.ok {S : List (List TRange)} (h : Good S) : ∀ x ∈ S.flatten, Ok x := by
  intro x hx
  obtain ⟨s, hs, hx⟩ := List.mem_flatten.1 hx
  exact (h.norm s hs).1 x hx
noncomputable def edg (S : List (List TRange)) : List Int := (alphabet_edges S).getD []
theorem edg_spec {S : List (List TRange)} (h : Good S) : alphabet_edges S = some (edg S) ∧ scansionref09_edges S = some (edg S) ∧ (edg S).Pairwise (· < ·) ∧ (∀ e, e ∈ edg S ↔ Edge S.flatten e) ∧ (edg S).length ≤ 2 * S.flatten.length + 1 := by
  obtain ⟨E, h1, h2, h3, h4, h5⟩ := edges_both h.ok (by have := h.small; omega) (by have := h.few; omega)
  have : edg S = E := by unfold edg; rw [h1]; rfl
  rw [this]; exact ⟨h1, h2, h3, h4, h5⟩
theorem edg_bound {S : List (List TRange)} (h : Good S) : ∀ e ∈ edg S, 0 ≤ e ∧ e ≤ 1114111 := fun e he => Edge_bound h.ok ((edg_spec h).2.2.2.1 e |>.1 he)
/-- The masks of all classes; their least numbers; the pieces. -/
noncomputable def cls (S : List (List TRange)) : List Int := firsts ((edg S).map (mkI S))
noncomputable def lst (S : List (List TRange)) : List Int := reps (mkI S) (edg S)
noncomputable def prp (S : List (List TRange)) : List TProp := pieces (mkI S) (edg S) (edg S).length
def nB : Nat := 4352
theorem nB_eq : nB = 4352 := by unfold nB; rfl
def Fit (S : List (List TRange)) : Prop := (cls S).length ≤ 200 ∧ (firsts (blks (prp S) nB)).length ≤ 256
/-- A number's class. -/
noncomputable def clsOf (S : List (List TRange)) (r : Int) : Nat := pos (cls S) (mkI S r)
theorem mkI_piece {S : List (List TRange)} (h : Good S) {k : Nat} (hk : k < (edg S).length) {r : Int} (h1 : bnd (edg S) k ≤ r) (h2 : r < bnd (edg S) (k + 1)) (h3 : r ≤ 1114111) : mkI S r = mkI S (bnd (edg S) k) := by
  have hs := edg_spec h
  rw [bnd_at hk] at h1 ⊢
  unfold mkI
  have key : ∀ n, maskP S r n = maskP S (edg S)[k] n := by
    intro n
    induction n with
    | zero => rfl
    | succ n ih =>
      simp only [maskP, ih]
      by_cases hn : n < S.length
      · have hg : S.getD n [] = S[n] := by simp [List.getD_eq_getElem?_getD, List.getElem?_eq_getElem hn]
        rw [hg, const_at h.ok hs.2.2.1 hs.2.2.2.1 (fun x hx => mem_flat hn hx) hk h1 h2 h3]
      · have hg : S.getD n [] = [] := by simp [List.getD_eq_getElem?_getD, List.getElem?_eq_none (Nat.le_of_not_lt hn)]
        rw [hg]; rfl
  rw [key]
theorem edg_piece {S : List (List TRange)} (h : Good S) {r : Int} (hr : 0 ≤ r) (hr2 : r ≤ 1114111) : ∃ k, k < (edg S).length ∧ bnd (edg S) k ≤ r ∧ r < bnd (edg S) (k + 1) := piece_at (edg_spec h).2.2.1 (edg_bound h) ((edg_spec h).2.2.2.1 0 |>.2 (.inl rfl)) hr hr2
theorem mkI_mem {S : List (List TRange)} (h : Good S) {r : Int} (hr : 0 ≤ r) (hr2 : r ≤ 1114111) : mkI S r ∈ cls S := by
  obtain ⟨k, hk, h1, h2⟩ := edg_piece h hr hr2
  rw [mkI_piece h hk h1 h2 hr2, bnd_at hk]
  unfold cls
  rw [mem_firsts]
  exact List.mem_map_of_mem (List.getElem_mem hk)
theorem prp_val {S : List (List TRange)} (h : Good S) {r : Int} (hr : 0 ≤ r) (hr2 : r ≤ 1114111) : valN (prp S) r = UInt8.ofNat (clsOf S r) := by
  obtain ⟨k, hk, h1, h2⟩ := edg_piece h hr hr2
  unfold prp clsOf
  rw [pieces_val (edg_spec h).2.2.1 (edg_bound h) hk h1 h2 _ (Nat.le_refl _), if_pos hk, mkI_piece h hk h1 h2 hr2]; rfl
theorem prp_ok {S : List (List TRange)} (h : Good S) : ∀ x ∈ prp S, OkP x := pieces_ok (edg_spec h).2.2.1 (edg_bound h)
theorem prp_len {S : List (List TRange)} (h : Good S) : (prp S).length ≤ 2401 := by
  have := (edg_spec h).2.2.2.2
  have := h.small
  unfold prp; rw [pieces_len]; omega
theorem prp_len2 {S : List (List TRange)} (h : Good S) : (prp S).length ≤ 4096 := by have := prp_len h; omega
theorem Build_two {N : Nat} (hN : N = 4352) {l : List TProp} (ho : ∀ x ∈ l, OkP x) (hl : l.length ≤ 4096) :
    ((firsts (blks l N)).length ≤ 256 → ∃ like', LikeOk l like' N ∧ trie_Build l = some (some ⟨like', firsts (blks l N)⟩, 0)) ∧ (¬ (firsts (blks l N)).length ≤ 256 → trie_Build l = some (none, 3)) := by
  have h := Build_of hN ho hl
  constructor
  · intro f; rw [if_pos f] at h; exact h
  · intro f; rw [if_neg f] at h; exact h
theorem New_k1 {S : List (List TRange)} (h : Good S) : (Fit S → ∃ like, LikeOk (prp S) like nB ∧ alphabet_New.k1 S = some (some ⟨⟨like, firsts (blks (prp S) nB)⟩, cls S, lst S⟩, 0)) ∧ (¬ Fit S → alphabet_New.k1 S = some (none, 3)) := by
  have hs := edg_spec h
  have hsm := h.small
  have hloop := new_loop (E := edg S) h.norm h.few (edg_bound h) (by omega) (edg S).length 0 (by omega) [] Knows_nil (by simp [firsts])
  have hk1 : alphabet_New.k1 S = if (cls S).length ≤ 200 then alphabet_New.k2 (prp S) (cls S) (lst S) else some (none, 3) := by
    unfold alphabet_New.k1
    rw [hs.1, Option.bind_some]; exact hloop
  have hb := Build_two (N := nB) nB_eq (prp_ok h) (prp_len2 h)
  rw [hk1]
  constructor
  · rintro ⟨f1, f2⟩
    obtain ⟨like, b1, b2⟩ := hb.1 f2
    refine ⟨like, b1, ?_⟩
    rw [if_pos f1]
    unfold alphabet_New.k2
    rw [b2, Option.bind_some]; rfl
  · intro hf
    by_cases f1 : (cls S).length ≤ 200
    · have f2 : ¬ (firsts (blks (prp S) nB)).length ≤ 256 := fun f2 => hf ⟨f1, f2⟩
      rw [if_pos f1]
      unfold alphabet_New.k2
      rw [hb.2 f2, Option.bind_some]; rfl
    · rw [if_neg f1]
end Go.Val

/- part R17 -/
/- Plain lemmas: how many there are of each; what an alphabet tells. -/
namespace Go.Val
set_option linter.unusedVariables false
set_option linter.unusedSimpArgs false
set_option linter.unusedSectionVars false
section
variable {α K K' : Type} [DecidableEq K] [DecidableEq K']
theorem nodup_sub_len [DecidableEq α] : ∀ {l m : List α}, l.Nodup → (∀ x ∈ l, x ∈ m) → l.length ≤ m.length
  | [], m, _, _ => by simp
  | a :: l, m, h, hs => by
    rw [List.nodup_cons] at h
    have ha := hs a (by simp)
    have ih := nodup_sub_len (l := l) (m := m.erase a) h.2 fun x hx => by
      have hne : x ≠ a := fun e => h.1 (e ▸ hx)
      exact (List.mem_erase_of_ne hne).2 (hs x (by simp [hx]))
    rw [List.length_erase_of_mem ha] at ih
    have := List.length_pos_of_mem ha
    simp; omega
theorem reps_pre {f : α → K} {l : List α} {a : α} : reps f l <+: reps f (l ++ [a]) := by
  rw [reps_snoc, addR]
  split
  · exact List.prefix_refl _
  · exact List.prefix_append _ _
theorem reps_sub {f : α → K} {l : List α} : (reps f l).Sublist l := by
  induction l using snoc_ind with
  | h0 => exact List.Sublist.refl _
  | h1 l a ih =>
    rw [reps_snoc, addR]
    split
    · exact ih.trans (List.sublist_append_left _ _)
    · exact List.Sublist.append ih (List.Sublist.refl _)
theorem reps_has {f : α → K} {l : List α} {x : α} (h : x ∈ l) : ∃ y, y ∈ reps f l ∧ f y = f x := by
  have : f x ∈ (reps f l).map f := by rw [reps_map, mem_firsts]; exact List.mem_map_of_mem h
  obtain ⟨y, hy, e⟩ := List.mem_map.1 this
  exact ⟨y, hy, e⟩
theorem count_le {f : α → K} {g : α → K'} {l l' : List α} (hs : ∀ x ∈ l', x ∈ l) (h : ∀ x ∈ l, ∀ y ∈ l, f x = f y → g x = g y) : (firsts (l'.map g)).length ≤ (firsts (l.map f)).length := by
  rw [← reps_len (f := f) (l := l), ← List.length_map (f := g)]
  refine nodup_sub_len nodup_firsts fun z hz => ?_
  rw [mem_firsts] at hz
  obtain ⟨x, hx, rfl⟩ := List.mem_map.1 hz
  obtain ⟨y, hy, e⟩ := reps_has (f := f) (hs x hx)
  exact List.mem_map.2 ⟨y, hy, h y (reps_sub.subset hy) x (hs x hx) e⟩
end
theorem reps_least {f : Int → Int} {l : List Int} (hp : l.Pairwise (· < ·)) {x : Int} (h : x ∈ l) : ∃ y, y ∈ reps f l ∧ f y = f x ∧ y ≤ x := by
  induction l using snoc_ind with
  | h0 => cases h
  | h1 l a ih =>
    rw [List.pairwise_append] at hp
    rcases List.mem_append.1 h with h | h
    · obtain ⟨y, h1, h2⟩ := ih hp.1 h
      exact ⟨y, reps_pre.subset h1, h2⟩
    · simp at h; subst h
      by_cases hc : f x ∈ (reps f l).map f
      · obtain ⟨y, hy, e⟩ := List.mem_map.1 hc
        exact ⟨y, reps_pre.subset hy, e, Int.le_of_lt (hp.2.2 y (reps_sub.subset hy) x (by simp))⟩
      · exact ⟨x, by rw [reps_snoc, addR, if_neg hc]; simp, rfl, Int.le_refl _⟩
/-- Two numbers are in the same sets. -/
def Eqv (S : List (List TRange)) (x y : Int) : Prop := ∀ s ∈ S, hasB s x = hasB s y
theorem mkI_eqv {S : List (List TRange)} {x y : Int} : mkI S x = mkI S y ↔ Eqv S x y := by
  unfold mkI
  constructor
  · intro h s hs
    obtain ⟨i, hi, rfl⟩ := List.getElem_of_mem hs
    have e : maskP S x S.length = maskP S y S.length := by omega
    have hg : S.getD i [] = S[i] := by simp [List.getD_eq_getElem?_getD, List.getElem?_eq_getElem hi]
    have h1 := maskP_bit S x S.length i hi
    have h2 := maskP_bit S y S.length i hi
    rw [e, hg] at h1; rw [hg] at h2
    exact h1.symm.trans h2
  · intro h
    have key : ∀ n, n ≤ S.length → maskP S x n = maskP S y n := by
      intro n
      induction n with
      | zero => exact fun _ => rfl
      | succ n ih =>
        intro hn
        have hg : S.getD n [] = S[n] := by simp [List.getD_eq_getElem?_getD, List.getElem?_eq_getElem (show n < S.length by omega)]
        simp only [maskP]
        rw [ih (by omega), hg, h _ (List.getElem_mem (by omega))]
    rw [key _ (Nat.le_refl _)]
theorem cls_nodup {S : List (List TRange)} : (cls S).Nodup := nodup_firsts
theorem cls_len {S : List (List TRange)} : (cls S).length ≤ (edg S).length := by
  have := firsts_len (l := (edg S).map (mkI S))
  rw [List.length_map] at this; exact this
theorem clsOf_inj {S : List (List TRange)} (h : Good S) {x y : Int} (hx : 0 ≤ x ∧ x ≤ 1114111) (hy : 0 ≤ y ∧ y ≤ 1114111) : clsOf S x = clsOf S y ↔ Eqv S x y := by
  rw [← mkI_eqv]
  exact ⟨fun e => pos_inj (mkI_mem h hx.1 hx.2) (mkI_mem h hy.1 hy.2) e, fun e => by unfold clsOf; rw [e]⟩
theorem clsOf_lt {S : List (List TRange)} (h : Good S) {x : Int} (hx : 0 ≤ x ∧ x ≤ 1114111) : clsOf S x < (cls S).length := pos_lt (mkI_mem h hx.1 hx.2)
theorem blockOf_val {S : List (List TRange)} (h : Good S) {k j : Nat} (hk : k < 4352) (hj : j < 256) : (blockOf (prp S) k).toList[j]? = some (UInt8.ofNat (clsOf S ((k * 256 + j : Nat) : Int))) := by
  rw [blockOf_get _ _ _ hj, prp_val h (by omega) (by omega)]
theorem ofNat_inj {a b : Nat} (ha : a < 256) (hb : b < 256) (h : UInt8.ofNat a = UInt8.ofNat b) : a = b := by
  have := congrArg UInt8.toNat h
  rw [UInt8.toNat_ofNat', UInt8.toNat_ofNat'] at this
  omega
theorem in_blk {k j : Nat} (hk : k < 4352) (hj : j < 256) : 0 ≤ ((k * 256 + j : Nat) : Int) ∧ ((k * 256 + j : Nat) : Int) ≤ 1114111 := by omega
theorem block_eqv {S T : List (List TRange)} (hS : Good S) (hT : Good T) (hc : (cls S).length ≤ 256) (hE : ∀ x y, Eqv S x y → Eqv T x y) {k k' : Nat} (hk : k < 4352) (hk' : k' < 4352) (h : blockOf (prp S) k = blockOf (prp S) k') : blockOf (prp T) k = blockOf (prp T) k' := by
  apply Vector.toList_inj.1
  apply List.ext_getElem?
  intro j
  by_cases hj : j < 256
  · rw [blockOf_val hT hk hj, blockOf_val hT hk' hj]
    have a1 : 0 ≤ ((k * 256 + j : Nat) : Int) ∧ ((k * 256 + j : Nat) : Int) ≤ 1114111 := in_blk hk hj
    have a2 : 0 ≤ ((k' * 256 + j : Nat) : Int) ∧ ((k' * 256 + j : Nat) : Int) ≤ 1114111 := in_blk hk' hj
    have l1 := clsOf_lt hS a1
    have l2 := clsOf_lt hS a2
    have l3 : clsOf S ((k * 256 + j : Nat) : Int) < 256 := Nat.lt_of_lt_of_le l1 hc
    have l4 : clsOf S ((k' * 256 + j : Nat) : Int) < 256 := Nat.lt_of_lt_of_le l2 hc
    have h1 := blockOf_val hS hk hj
    rw [h, blockOf_val hS hk' hj] at h1
    have e := ofNat_inj l4 l3 (Option.some.inj h1)
    rw [(clsOf_inj hT a1 a2).2 (hE _ _ ((clsOf_inj hS a1 a2).1 e.symm))]
  · rw [List.getElem?_eq_none (by rw [Vector.length_toList]; omega), List.getElem?_eq_none (by rw [Vector.length_toList]; omega)]
theorem blk_less {S T : List (List TRange)} {N : Nat} (hN : N = 4352) (hS : Good S) (hT : Good T) (hc : (cls S).length ≤ 256) (hE : ∀ x y, Eqv S x y → Eqv T x y) : (firsts (blks (prp T) N)).length ≤ (firsts (blks (prp S) N)).length := by
  unfold blks
  have hnB : ∀ k, k ∈ List.range N → k < 4352 := fun k hk => by
    have := List.mem_range.1 hk
    omega
  exact count_le (fun _ => id) fun x hx y hy e => block_eqv hS hT hc hE (hnB x hx) (hnB y hy) e
/-- Fewer sets, or the same in another order: no more classes. -/
theorem Fit_less {S T : List (List TRange)} (hS : Good S) (hT : Good T) (hE : ∀ x y, Eqv S x y → Eqv T x y) (hs : ∀ e ∈ edg T, e ∈ edg S) (h : Fit S) : Fit T ∧ (cls T).length ≤ (cls S).length := by
  have hl : (cls T).length ≤ (cls S).length := count_le hs fun x _ y _ e => mkI_eqv.2 (hE x y (mkI_eqv.1 e))
  have hb := blk_less nB_eq hS hT (Nat.le_trans h.1 (by decide)) hE
  exact ⟨⟨Nat.le_trans hl h.1, Nat.le_trans hb h.2⟩, hl⟩
theorem lst_len {S : List (List TRange)} : (lst S).length = (cls S).length := reps_len
theorem lst_at {S : List (List TRange)} {i : Nat} (h : i < (lst S).length) : mkI S (lst S)[i] = (cls S)[i]'(by rw [← lst_len]; exact h) := by
  have : (lst S).map (mkI S) = cls S := reps_map
  have h2 : ((lst S).map (mkI S))[i]? = (cls S)[i]? := by rw [this]
  rw [List.getElem?_map, List.getElem?_eq_getElem h, List.getElem?_eq_getElem (by rw [← lst_len]; exact h)] at h2
  exact Option.some.inj h2
theorem lst_mem {S : List (List TRange)} {x : Int} (h : x ∈ lst S) : x ∈ edg S := reps_sub.subset h
theorem clsOf_lst {S : List (List TRange)} {i : Nat} (h : i < (lst S).length) : clsOf S (lst S)[i] = i := by
  unfold clsOf
  rw [lst_at h]
  exact pos_nodup cls_nodup (List.getElem?_eq_getElem _)
theorem lst_rise {S : List (List TRange)} (h : Good S) : (lst S).Pairwise (· < ·) := (edg_spec h).2.2.1.sublist reps_sub
theorem lst_least {S : List (List TRange)} (h : Good S) {r : Int} (hr : 0 ≤ r) (hr2 : r ≤ 1114111) : ∃ e, (lst S)[clsOf S r]? = some e ∧ e ≤ r := by
  obtain ⟨k, hk, h1, h2⟩ := edg_piece h hr hr2
  have hm := mkI_piece h hk h1 h2 hr2
  rw [bnd_at hk] at h1 hm
  obtain ⟨y, y1, y2, y3⟩ := reps_least (f := mkI S) (edg_spec h).2.2.1 (List.getElem_mem hk)
  obtain ⟨i, hi, e⟩ := List.getElem_of_mem y1
  have hi' : i < (lst S).length := hi
  have e' : (lst S)[i] = y := e
  have hc : clsOf S r = i := by
    rw [← clsOf_lst hi', e']
    unfold clsOf; rw [hm, y2]
  exact ⟨y, by rw [hc, List.getElem?_eq_getElem hi', e'], by omega⟩
end Go.Val

/- part R18 -/
/- Plain lemmas: what an alphabet tells. -/
namespace Go.Val
set_option linter.unusedVariables false
set_option linter.unusedSimpArgs false
/-- An alphabet of sets. -/
def IsA (S : List (List TRange)) (A : Talphabet_Alphabet) : Prop := ∃ like, LikeOk (prp S) like nB ∧ A = ⟨⟨like, firsts (blks (prp S) nB)⟩, cls S, lst S⟩
def inR (r : Int) : Prop := 0 ≤ r ∧ r ≤ 1114111
instance (r : Int) : Decidable (inR r) := inferInstanceAs (Decidable (_ ∧ _))
noncomputable def ofI (S : List (List TRange)) (r : Int) : Int := if inR r then (clsOf S r : Int) else -1
/-- What a list has at a place, or another. -/
def getZ (l : List Int) (c d : Int) : Int := if 0 ≤ c ∧ c < (l.length : Int) then l.getD c.toNat 0 else d
variable {S : List (List TRange)} {A : Talphabet_Alphabet}
theorem Of_eq (h : Good S) (hF : Fit S) (hA : IsA S A) (r : Int) : alphabet_Alphabet_Of A r = some (ofI S r) := by
  obtain ⟨like, hL, rfl⟩ := hA
  unfold alphabet_Alphabet_Of ofI
  by_cases hr : inR r
  · obtain ⟨h0, h1⟩ := hr
    rw [if_neg (by simp; omega), if_pos ⟨h0, h1⟩]
    simp only
    rw [nB_eq] at hL
    have hFb := hF.2
    have hT := TrieOf_eq (N := 4352) rfl hL (by rw [nB_eq] at hFb; exact hFb) h0 h1
    rw [nB_eq, hT, Option.bind_some, prp_val h h0 h1]
    have hlt := clsOf_lt h ⟨h0, h1⟩
    have hc := hF.1
    rw [UInt8.toNat_ofNat', Nat.mod_eq_of_lt (by omega), w64 (by omega) (by omega)]
  · rw [if_neg hr]
    unfold inR at hr
    rw [if_pos (by simp; omega)]
theorem Count_eq (hA : IsA S A) : alphabet_Alphabet_Count A = some ((cls S).length : Int) := by
  obtain ⟨like, hL, rfl⟩ := hA; rfl
theorem Mask_eq (hA : IsA S A) (c : Int) : alphabet_Alphabet_Mask A c = some (getZ (cls S) c 0) := by
  obtain ⟨like, hL, rfl⟩ := hA
  unfold alphabet_Alphabet_Mask alphabet_Alphabet_has getZ
  simp only [Option.bind_some]
  by_cases hc : 0 ≤ c ∧ c < ((cls S).length : Int)
  · rw [if_neg (by simp; omega), if_pos hc]
    unfold idx
    rw [if_neg (by omega), List.getElem?_eq_getElem (by omega), Option.bind_some, List.getD_eq_getElem?_getD, List.getElem?_eq_getElem (by omega)]; rfl
  · rw [if_pos (by simp; omega), if_neg hc]
theorem Any_eq (hA : IsA S A) (c : Int) : alphabet_Alphabet_Any A c = some (getZ (lst S) c (-1)) := by
  obtain ⟨like, hL, rfl⟩ := hA
  have hl := lst_len (S := S)
  unfold alphabet_Alphabet_Any alphabet_Alphabet_has getZ
  simp only [Option.bind_some]
  by_cases hc : 0 ≤ c ∧ c < ((lst S).length : Int)
  · rw [if_neg (by simp; omega), if_pos hc]
    unfold idx
    rw [if_neg (by omega), List.getElem?_eq_getElem (by omega), Option.bind_some, List.getD_eq_getElem?_getD, List.getElem?_eq_getElem (by omega)]; rfl
  · rw [if_pos (by simp; omega), if_neg hc]
/-- New, of good sets. -/
theorem Same_self {a : List TRange} (hl : a.length < 9223372036854775807) : scansionref02_Same a a = some true := by rw [Same_eq hl]; simp
theorem New_good (h : Good S) : alphabet_New S = alphabet_New.k1 S := by
  unfold alphabet_New
  have hf := h.few
  rw [if_neg (by simp; omega)]
  have hrun := Loop_int (b := alphabet_New.b2 S) (i := 0) (n := S.length) (Nat.zero_le _) (fun j _ hj => by
    have hn := h.norm _ (List.getElem_mem hj)
    have hlen := hn.len
    have hsm : S[j].length ≤ S.flatten.length := by have := ed_len hj; omega
    have hs2 := h.small
    obtain ⟨out, e, m1, m2, m3, m4, m5, m6⟩ := Make_both (l := S[j]) (by omega)
    obtain ⟨e1, e2⟩ := Make_norm hn m3 m5 m6
    subst e1 e2
    simp only [alphabet_New.b2]
    rw [if_pos (by simpa using hj), idx_nat, List.getElem?_eq_getElem hj, Option.bind_some, m1, Option.bind_some, if_neg (by simp), Equal_same, Same_self (a := S[j]) (by omega), Option.bind_some, Option.bind_some, if_neg (by simp), w64s (by omega)])
  simp only [Int.ofNat_zero, Int.natCast_zero] at hrun
  rw [hrun]
  refine Loop_end ?_
  simp only [alphabet_New.b2]
  rw [if_neg (by simp)]
theorem New_fit (h : Good S) (hF : Fit S) : ∃ A, IsA S A ∧ alphabet_New S = some (some A, 0) := by
  obtain ⟨like, h1, h2⟩ := (New_k1 h).1 hF
  exact ⟨_, ⟨like, h1, rfl⟩, (New_good h).trans h2⟩
theorem New_unfit (h : Good S) (hF : ¬ Fit S) : alphabet_New S = some (none, 3) := (New_good h).trans ((New_k1 h).2 hF)
end Go.Val

/- part R19 -/
/- Plain lemmas: the small thing works; lists that are few; the sets of lists. -/
namespace Go.Val
set_option linter.unusedVariables false
set_option linter.unusedSimpArgs false
def S0 : List (List TRange) := [[⟨97, 99⟩], [⟨98, 122⟩]]
theorem S0_good : Good S0 := by
  refine ⟨fun s hs => ?_, by decide, by decide⟩
  have : s = [⟨97, 99⟩] ∨ s = [⟨98, 122⟩] := by simpa [S0] using hs
  rcases this with rfl | rfl
  · exact ⟨fun x hx => by simp at hx; subst hx; unfold Ok; simp, List.pairwise_singleton _ _⟩
  · exact ⟨fun x hx => by simp at hx; subst hx; unfold Ok; simp, List.pairwise_singleton _ _⟩
theorem S0_edg : edg S0 = [0, 97, 98, 100, 123] := by
  refine rise_unique (edg_spec S0_good).2.2.1 (by decide) fun x => ?_
  rw [(edg_spec S0_good).2.2.2.1]
  show Edge [⟨97, 99⟩, ⟨98, 122⟩] x ↔ _
  unfold Edge
  simp only [List.mem_cons, List.not_mem_nil, or_false]
  constructor
  · rintro (h | ⟨y, rfl | rfl, h⟩)
    · exact .inl h
    · rcases h with h | ⟨_, h⟩
      · exact .inr (.inl h)
      · exact .inr (.inr (.inr (.inl h)))
    · rcases h with h | ⟨_, h⟩
      · exact .inr (.inr (.inl h))
      · exact .inr (.inr (.inr (.inr h)))
  · rintro (h | h | h | h | h)
    · exact .inl h
    · exact .inr ⟨_, .inl rfl, .inl h⟩
    · exact .inr ⟨_, .inr rfl, .inl h⟩
    · exact .inr ⟨_, .inl rfl, .inr ⟨by decide, h⟩⟩
    · exact .inr ⟨_, .inr rfl, .inr ⟨by decide, h⟩⟩
theorem S0_cls : cls S0 = [0, 1, 3, 2] := by unfold cls; rw [S0_edg]; decide
theorem S0_lst : lst S0 = [0, 97, 98, 100] := by unfold lst; rw [S0_edg]; decide
theorem S0_far {r : Int} (h : 123 ≤ r) : mkI S0 r = 0 := by
  have h1 : hasB [⟨97, 99⟩] r = false := by unfold hasB; simp; omega
  have h2 : hasB [⟨98, 122⟩] r = false := by unfold hasB; simp; omega
  show ((0 + (if hasB [⟨97, 99⟩] r then 2 ^ 0 else 0) + (if hasB [⟨98, 122⟩] r then 2 ^ 1 else 0) : Nat) : Int) = 0
  rw [h1, h2]; rfl
theorem S0_block {k : Nat} (h1 : 1 ≤ k) (hk : k < 4352) : blockOf (prp S0) k = blockOf (prp S0) 1 := by
  apply Vector.toList_inj.1
  apply List.ext_getElem?
  intro j
  by_cases hj : j < 256
  · rw [blockOf_val S0_good hk hj, blockOf_val S0_good (by omega) hj]
    unfold clsOf
    rw [S0_far (by omega), S0_far (by omega)]
  · rw [List.getElem?_eq_none (by rw [Vector.length_toList]; omega), List.getElem?_eq_none (by rw [Vector.length_toList]; omega)]
theorem S0_blks {N : Nat} (hN : N = 4352) : (firsts (blks (prp S0) N)).length ≤ 256 := by
  have : (firsts (blks (prp S0) N)).length ≤ [blockOf (prp S0) 0, blockOf (prp S0) 1].length := nodup_sub_len nodup_firsts fun x hx => by
    rw [mem_firsts] at hx
    unfold blks at hx
    obtain ⟨k, hk, rfl⟩ := List.mem_map.1 hx
    have hk := List.mem_range.1 hk
    rcases Nat.eq_zero_or_pos k with h0 | h0
    · subst h0; simp
    · rw [S0_block h0 (by omega)]; simp
  exact Nat.le_trans this (by simp)
theorem S0_fit : Fit S0 := ⟨by rw [S0_cls]; decide, S0_blks nB_eq⟩
theorem awake9 : scansionlaw09_awake = some true := by
  obtain ⟨A, hA, hN⟩ := New_fit S0_good S0_fit
  have h2 : ofI S0 99 = 2 := by
    unfold ofI clsOf
    rw [if_pos (by decide), S0_cls]; decide
  unfold scansionlaw09_awake
  rw [show ([[(TRange.mk (97 : Int) (99 : Int))], [(TRange.mk (98 : Int) (122 : Int))]] : List (List TRange)) = S0 from rfl, hN, Option.bind_some]
  simp only
  rw [Count_eq hA, S0_cls, Option.bind_some, Of_eq S0_good S0_fit hA, h2, Option.bind_some, Mask_eq hA, S0_cls, Option.bind_some, Any_eq hA, S0_lst, Option.bind_some]
  rfl
/-- Lists that are few. -/
structure Few (l : List (List TRange)) : Prop where
  many : l.length ≤ 101
  each : ∀ s ∈ l, s.length ≤ 300
  all : l.flatten.length ≤ 1200
theorem few_eq (l : List (List TRange)) : ∃ b, scansionlaw09_few l = some b ∧ (b = true → Few l) := by
  refine Loop_spec (body := scansionlaw09_few.b1 l) (Q := fun b => b = true → Few l) (fun p : Int × Int => ∃ k : Nat, p.2 = (k : Int) ∧ k ≤ l.length ∧ k ≤ 101 ∧ p.1 = ((l.take k).flatten.length : Int) ∧ ∀ s ∈ l.take k, s.length ≤ 300) (fun p => l.length - p.2.toNat) (fun p hp => ?_) _ ⟨0, rfl, Nat.zero_le _, by omega, by simp, by simp⟩
  obtain ⟨n, v⟩ := p
  obtain ⟨k, e, hk, hk2, hn, ha⟩ := hp
  simp only at e hn
  subst e hn
  have hbound : (l.take k).flatten.length ≤ 300 * k := by
    have : ∀ m : List (List TRange), (∀ s ∈ m, s.length ≤ 300) → m.flatten.length ≤ 300 * m.length := by
      intro m
      induction m with
      | nil => simp
      | cons a m ih =>
        intro h
        have h1 := h a (by simp)
        have h2 := ih fun s hs => h s (by simp [hs])
        rw [List.flatten_cons, List.length_append, List.length_cons]; omega
    have h3 := this _ ha
    rw [List.length_take] at h3; omega
  by_cases hl : k < l.length
  · by_cases hb : 100 < k
    · right
      refine ⟨false, ?_, by simp⟩
      simp only [scansionlaw09_few.b1]
      rw [if_pos (by simpa using hl), if_pos (decide_eq_true (by omega)), Option.bind_some, if_pos rfl]
    · by_cases hs : 300 < l[k].length
      · right
        refine ⟨false, ?_, by simp⟩
        simp only [scansionlaw09_few.b1]
        rw [if_pos (by simpa using hl), if_neg (by simp; omega), idx_nat, List.getElem?_eq_getElem hl, Option.bind_some, Option.bind_some, if_pos (decide_eq_true (by omega))]
      · left
        refine ⟨(((l.take (k + 1)).flatten.length : Int), ((k + 1 : Nat) : Int)), ?_, ⟨k + 1, rfl, hl, by omega, rfl, fun s hs2 => ?_⟩, by simp only; omega⟩
        · simp only [scansionlaw09_few.b1]
          rw [if_pos (by simpa using hl), if_neg (by simp; omega), idx_nat, List.getElem?_eq_getElem hl, Option.bind_some, Option.bind_some, if_neg (by simp; omega), Option.bind_some, w64 (by omega) (by omega), w64s (by omega), flat_snoc hl, List.length_append]
          rfl
        · rw [take_snocP hl] at hs2
          rcases List.mem_append.1 hs2 with h | h
          · exact ha s h
          · simp at h; subst h; omega
  · right
    have e : k = l.length := by omega
    subst e
    rw [List.take_length] at ha hbound ⊢
    refine ⟨decide (((l.flatten.length : Nat) : Int) ≤ 1200), ?_, fun h => ⟨hk2, ha, by have := of_decide_eq_true h; omega⟩⟩
    simp only [scansionlaw09_few.b1]
    rw [if_neg (by simp)]; rfl
/-- The sets of lists. -/
structure SetsOf (l S : List (List TRange)) : Prop where
  norm : ∀ s ∈ S, Norm s
  len : S.length = l.length
  all : S.flatten.length ≤ l.flatten.length
theorem sets_eq {l : List (List TRange)} (h : Few l) : ∃ S, scansionlaw09_sets l = some S ∧ SetsOf l S := by
  refine Loop_spec (body := scansionlaw09_sets.b1 l) (Q := fun S => SetsOf l S) (fun p : List (List TRange) × Int => ∃ k : Nat, p.2 = (k : Int) ∧ k ≤ l.length ∧ (∀ s ∈ p.1, Norm s) ∧ p.1.length = k ∧ p.1.flatten.length ≤ (l.take k).flatten.length) (fun p => l.length - p.2.toNat) (fun p hp => ?_) _ ⟨0, rfl, Nat.zero_le _, by simp, rfl, by simp⟩
  obtain ⟨S, v⟩ := p
  obtain ⟨k, e, hk, hn, hlen, hall⟩ := hp
  simp only at e hn hlen hall
  subst e
  have hm := h.many
  by_cases hl : k < l.length
  · left
    have he := h.each _ (List.getElem_mem hl)
    obtain ⟨out, e, m1, m2, m3, m4, m5, m6⟩ := Make_both (l := l[k]) (by omega)
    refine ⟨(S ++ [out], ((k + 1 : Nat) : Int)), ?_, ⟨k + 1, rfl, hl, ?_, by simp [hlen], ?_⟩, by simp only; omega⟩
    · simp only [scansionlaw09_sets.b1]
      rw [if_pos (by simpa using hl), idx_nat, List.getElem?_eq_getElem hl, Option.bind_some, m2, Option.bind_some, room_ok (by omega), Option.bind_some, w64s (by omega)]
    · intro s hs
      rcases List.mem_append.1 hs with q | q
      · exact hn s q
      · simp at q; subst q; exact m3
    · simp only
      rw [flat_snoc hl, List.flatten_append, List.length_append, List.length_append]
      simp only [List.flatten_cons, List.flatten_nil, List.append_nil]
      omega
  · right
    have e : k = l.length := by omega
    subst e
    rw [List.take_length] at hall
    refine ⟨S, ?_, ⟨hn, hlen, hall⟩⟩
    simp only [scansionlaw09_sets.b1]
    rw [if_neg (by simp)]; rfl
theorem SetsOf.good {l S : List (List TRange)} (h : SetsOf l S) (hf : Few l) (h60 : S.length ≤ 60) : Good S := ⟨h.norm, h60, Nat.le_trans h.all hf.all⟩
end Go.Val

/- part R20 -/
/- Plain lemmas: two numbers of one class; the least number of a class. -/
namespace Go.Val
set_option linter.unusedVariables false
set_option linter.unusedSimpArgs false
theorem ofI_eqv {S : List (List TRange)} (h : Good S) {x y : Int} (hx : inR x) (hy : inR y) : (ofI S x == ofI S y) = true ↔ Eqv S x y := by
  unfold ofI
  rw [if_pos hx, if_pos hy, beq_iff_eq, ← clsOf_inj h hx hy]
  omega
theorem edg_head {S : List (List TRange)} (h : Good S) : ∃ hp : 0 < (lst S).length, (lst S)[0] = 0 := by
  obtain ⟨e, he, hle⟩ := lst_least h (r := 0) (by omega) (by omega)
  obtain ⟨hlt, heq⟩ := List.getElem?_eq_some_iff.1 he
  have hp : 0 < (lst S).length := by omega
  refine ⟨hp, ?_⟩
  have h1 := edg_bound h _ (lst_mem (List.getElem_mem hp))
  have h2 : (lst S)[0] ≤ e := by
    rcases Nat.eq_zero_or_pos (clsOf S 0) with q | q
    · simp only [q] at heq; rw [heq]; exact Int.le_refl _
    · have := (List.pairwise_iff_getElem.1 (lst_rise h)) 0 (clsOf S 0) hp hlt q
      rw [heq] at this; omega
  omega
end Go.Val

/- part R21 -/
/- Plain lemmas: sets in another order; a set less. -/
namespace Go.Val
set_option linter.unusedVariables false
set_option linter.unusedSimpArgs false
theorem Good.less {S T : List (List TRange)} (h : Good S) (hs : ∀ s ∈ T, s ∈ S) (hl : T.length ≤ S.length) (hf : T.flatten.length ≤ S.flatten.length) : Good T := ⟨fun s hs2 => h.norm s (hs s hs2), Nat.le_trans hl h.few, Nat.le_trans hf h.small⟩
theorem edg_less {S T : List (List TRange)} (hS : Good S) (hT : Good T) (hs : ∀ s ∈ T, s ∈ S) : ∀ e ∈ edg T, e ∈ edg S := by
  intro e he
  rw [(edg_spec hT).2.2.2.1] at he
  rw [(edg_spec hS).2.2.2.1]
  rcases he with h | ⟨x, hx, h⟩
  · exact .inl h
  · obtain ⟨s, h1, h2⟩ := List.mem_flatten.1 hx
    exact .inr ⟨x, List.mem_flatten.2 ⟨s, hs s h1, h2⟩, h⟩
theorem Eqv_less {S T : List (List TRange)} (hs : ∀ s ∈ T, s ∈ S) (x y : Int) (h : Eqv S x y) : Eqv T x y := fun s q => h s (hs s q)
theorem flat_rev (S : List (List TRange)) : S.reverse.flatten.length = S.flatten.length := by
  induction S with
  | nil => rfl
  | cons a S ih => rw [List.reverse_cons, List.flatten_append, List.length_append, ih, List.flatten_cons, List.length_append]; simp; omega
theorem ofI_same {S T : List (List TRange)} (hS : Good S) (hT : Good T) (x y : Int) (h : ∀ x y, Eqv S x y → Eqv T x y) (e : ofI S x = ofI S y) : ofI T x = ofI T y := by
  by_cases hx : inR x
  · by_cases hy : inR y
    · have := (ofI_eqv hS hx hy).1 (by simpa using e)
      simpa using (ofI_eqv hT hx hy).2 (h x y this)
    · exfalso
      unfold ofI at e
      rw [if_pos hx, if_neg hy] at e; omega
  · by_cases hy : inR y
    · exfalso
      unfold ofI at e
      rw [if_neg hx, if_pos hy] at e; omega
    · unfold ofI; rw [if_neg hx, if_neg hy]
theorem turn_end {S : List (List TRange)} (hG : Good S) {x y : Int} : scansionlaw09_AlphabetTurned.k1 x y S S.reverse = some true := by
  have hB : Good S.reverse := hG.less (by simp) (by simp) (by rw [flat_rev]; exact Nat.le_refl _)
  have e1 := edg_less hG hB (by simp)
  have e2 := edg_less hB hG (by simp)
  have v1 := Eqv_less (S := S) (T := S.reverse) (by simp)
  have v2 := Eqv_less (S := S.reverse) (T := S) (by simp)
  unfold scansionlaw09_AlphabetTurned.k1
  by_cases hfit : Fit S
  · obtain ⟨hfB, hlB⟩ := Fit_less hG hB v1 e1 hfit
    have hlB2 := (Fit_less hB hG v2 e2 hfB).2
    obtain ⟨A, hA, hN⟩ := New_fit hG hfit
    obtain ⟨B, hBA, hNB⟩ := New_fit hB hfB
    rw [hN, Option.bind_some]
    simp only
    rw [hNB, Option.bind_some]
    simp only
    rw [if_neg (by simp), Count_eq hA, Option.bind_some, Count_eq hBA, Option.bind_some, if_neg (by simp; omega), Of_eq hG hfit hA, Option.bind_some, Of_eq hG hfit hA, Option.bind_some, Of_eq hB hfB hBA, Option.bind_some, Of_eq hB hfB hBA, Option.bind_some, Option.bind_some]
    have hsame : (ofI S x == ofI S y) = (ofI S.reverse x == ofI S.reverse y) := by
      rw [Bool.eq_iff_iff, beq_iff_eq, beq_iff_eq]
      exact ⟨ofI_same hG hB x y v1, ofI_same hB hG x y v2⟩
    rw [if_neg (by simp [hsame])]
    obtain ⟨hp, h0⟩ := edg_head hG
    have hll := lst_len (S := S)
    by_cases hz : S.length = 0
    · have hnil : S = [] := List.length_eq_zero_iff.1 hz
      have hc1 := cls_len (S := S)
      have hc2 := (edg_spec hG).2.2.2.2
      have hc3 : S.flatten.length = 0 := by rw [hnil]; rfl
      rw [if_pos (by simp [hz]), Option.bind_some]
      rw [show ((cls S).length : Int) = 1 by omega]; rfl
    · rw [if_neg (by simpa using hz)]
      have hcut : cutL S (1 : Int) = some (S.drop 1) := by
        unfold cutL; rw [if_pos (by omega)]; rfl
      rw [hcut, Option.bind_some]
      have hsub : ∀ s ∈ S.drop 1, s ∈ S := fun s hs => List.mem_of_mem_drop hs
      have hC : Good (S.drop 1) := hG.less hsub (by simp) (by
        have : S.flatten.length = (S.take 1).flatten.length + (S.drop 1).flatten.length := by rw [← List.length_append, ← List.flatten_append, List.take_append_drop]
        omega)
      obtain ⟨hfC, hlC⟩ := Fit_less hG hC (Eqv_less hsub) (edg_less hG hC hsub) hfit
      obtain ⟨C, hCA, hNC⟩ := New_fit hC hfC
      rw [show Int.toNat 1 = 1 from rfl, hNC, Option.bind_some]
      simp only
      rw [if_pos (by simp), Count_eq hCA, Option.bind_some, Option.bind_some, if_pos (decide_eq_true (by omega)), Option.bind_some, Option.bind_some]
      by_cases hxy : ofI S x = ofI S y
      · rw [if_neg (by simp [hxy]), Of_eq hC hfC hCA, Option.bind_some, Of_eq hC hfC hCA, Option.bind_some, ofI_same hG hC x y (Eqv_less hsub) hxy]
        simp
      · rw [if_pos (by simp [hxy])]; rfl
  · have hfB : ¬ Fit S.reverse := fun h => hfit (Fit_less hB hG v2 e2 h).1
    rw [New_unfit hG hfit, Option.bind_some]
    simp only
    rw [New_unfit hB hfB, Option.bind_some]; rfl
theorem turn_loop {S : List (List TRange)} (h60 : S.length ≤ 60) {x y : Int} : ∀ k : Nat, k ≤ S.length → Loop (scansionlaw09_AlphabetTurned.b1 x y S) ((S.drop k).reverse, (k : Int) - 1) = scansionlaw09_AlphabetTurned.k1 x y S S.reverse
  | 0, h => by
    refine Loop_end ?_
    simp only [scansionlaw09_AlphabetTurned.b1]
    rw [if_neg (by simp)]; rfl
  | k + 1, h => by
    have hk : k < S.length := by omega
    rw [← turn_loop h60 k (by omega)]
    have e : ((k + 1 : Nat) : Int) - 1 = (k : Int) := by omega
    rw [e]
    refine Loop_next ?_
    simp only [scansionlaw09_AlphabetTurned.b1]
    have hd : S.drop k = S[k] :: S.drop (k + 1) := List.drop_eq_getElem_cons hk
    rw [if_pos (by simp), idx_nat, List.getElem?_eq_getElem hk, Option.bind_some, room_ok (by rw [List.length_reverse, List.length_drop]; omega), Option.bind_some, w64 (by omega) (by omega), hd, List.reverse_cons]
theorem AlphabetTurned_of (l : List (List TRange)) (x y : Int) : scansionlaw09_AlphabetTurned l x y = some true := by
  obtain ⟨b, hb, hF⟩ := few_eq l
  unfold scansionlaw09_AlphabetTurned
  rw [awake9, Option.bind_some, hb, Option.bind_some]
  cases b with
  | false => simp
  | true =>
    by_cases h20 : l.length ≤ 20
    · rw [if_neg (by simp; omega)]
      obtain ⟨S, hS, hSo⟩ := sets_eq (hF rfl)
      have hlen := hSo.len
      rw [hS, Option.bind_some, w64 (by omega) (by omega)]
      have h60 : S.length ≤ 60 := by omega
      have := turn_loop (x := x) (y := y) h60 S.length (Nat.le_refl _)
      rw [List.drop_eq_nil_of_le (Nat.le_refl _)] at this
      exact this.trans (turn_end (hSo.good (hF rfl) h60))
    · rw [if_pos (by simp; omega)]
end Go.Val
